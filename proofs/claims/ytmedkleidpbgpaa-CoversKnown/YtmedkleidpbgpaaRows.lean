/-
  No cell of these rows narrows 'for every input' (looked for: loops, veiled, ifaces, maps, wideKeys, modest, calm, conditions, laid).
  DERIVED. THE GIVEN ROWS OF THIS SEAT. 2 by the template 'for every input the law returns true; each argument reads behind the call as it read before'; 0 by the template 'total and deterministic' (their statements: YtmedkleidpbgpaaTotals.lean).
  GIVEN WITH THE SEED: the statements are not yours to turn. If you find one false, say at which input.
  Laid BY PROGRAM, IN A SANDBOX (cutbox-rows.mjs): the forced cells as the released guide's own fill.sh prints them over the translation f3682b74c90f0719… (all of the seat's roots in one cut). By AI agents, Wed Nov 11 2026. No macro, syntax, notation, axiom, sorry.
-/
import Derived.Test.YtmedkleidpbgpaaChecked
import GoSem.Claim
import GoSem.ClaimJoined
import GoSem.ClaimMapViews
import Derived.JoinedTies
import Derived.KernelRfl
namespace Go.Proofs.Ytmedkleidpbgpaa
/- THE CELL 'sum', in the pinned program and in every row, IS THE sha256 OF THE DUMP (.gsa) THAT YtmedkleidpbgpaaProg.lean LOADS. Nothing in Lean hashes anything: it is a label: what it is worth is what the hold of that sum in a sandbox is worth. -/
noncomputable def Try.pinned : Pinned := { name := "ytmedkleidpbgpaa", sum := "f3682b74c90f0719959f9ea8e971142712462b9494e83dc2c88db38128b5f713", checked := Try.checked }
namespace Rows
def none {H : Type} : Left H := { results := [], args := [] }

/-- 'gauntletlaw12.TriesKnown': WHATEVER THE INPUT: true; the input reads as it did. -/
def triesKnownSpec : ChangeSpec := { name := "triesKnown", fn := fun _ => fun
  | [] => { results := [.lit (.bool true)], args := [] }
  | _ => none }
def triesKnownRow : OpenClaim := { program := "ytmedkleidpbgpaa", sum := "f3682b74c90f0719959f9ea8e971142712462b9494e83dc2c88db38128b5f713", func := "gauntlet/gauntletlaw12.TriesKnown", spec := "triesKnown", unfollowed := true, recurses := true, apart := false }
def TriesKnownSaid : Prop := triesKnownRow.holds Try.pinned (OpenSpec.ofChange triesKnownSpec)

/-- ITS FALSE NEIGHBOUR: 'it returns false'. Refute it at one input. -/
def triesKnownWrong : ChangeSpec := { name := "triesKnown", fn := fun _ => fun
  | [] => { results := [.lit (.bool false)], args := [] }
  | _ => none }
def TriesKnownWrongFalsely : Prop := triesKnownRow.holds Try.pinned (OpenSpec.ofChange triesKnownWrong)

/-- 'gauntletlaw13.CoversKnown': WHATEVER THE INPUT: true; the input reads as it did. -/
def coversKnownSpec : ChangeSpec := { name := "coversKnown", fn := fun _ => fun
  | [] => { results := [.lit (.bool true)], args := [] }
  | _ => none }
def coversKnownRow : OpenClaim := { program := "ytmedkleidpbgpaa", sum := "f3682b74c90f0719959f9ea8e971142712462b9494e83dc2c88db38128b5f713", func := "gauntlet/gauntletlaw13.CoversKnown", spec := "coversKnown", unfollowed := true, recurses := true, apart := false }
def CoversKnownSaid : Prop := coversKnownRow.holds Try.pinned (OpenSpec.ofChange coversKnownSpec)

/-- ITS FALSE NEIGHBOUR: 'it returns false'. Refute it at one input. -/
def coversKnownWrong : ChangeSpec := { name := "coversKnown", fn := fun _ => fun
  | [] => { results := [.lit (.bool false)], args := [] }
  | _ => none }
def CoversKnownWrongFalsely : Prop := coversKnownRow.holds Try.pinned (OpenSpec.ofChange coversKnownWrong)

/- THE SECOND FORM. 'bulk': how many values and letters a reading holds, each counted each time it is reached (what is shared counts as often as it is met; a slice's spare places count too). A statement '..UptoSaid' is the law's where the arguments, and the package variables that the reading takes, are together of bulk at most 1048576: NARROWER than '..Said'. Prove '..Said' where nothing that the law and all that it calls make is longer than what came in: it says more and counts as full. Else prove '..UptoSaid'. A law counts once. -/
mutual
def uptoBulk {H : Type} : DataW H → Nat
  | .lit (.string bytes) => bytes.length + 1
  | .lit _ => 1
  | .nil => 1
  | .ptr d => uptoBulk d + 1
  | .slice elems spare => uptoBulkAll elems + uptoBulkAll spare + 1
  | .agg parts => uptoBulkAll parts + 1
  | .iface _ d => uptoBulk d + 1
  | .map entries => uptoBulkEntries entries + 1
  | .held _ => 1
def uptoBulkAll {H : Type} : List (DataW H) → Nat
  | [] => 0
  | d :: r => uptoBulk d + uptoBulkAll r
def uptoBulkEntries {H : Type} : List (Lit × DataW H) → Nat
  | [] => 0
  | x :: r => uptoBulkEntry x + uptoBulkEntries r
def uptoBulkEntry {H : Type} : Lit × DataW H → Nat
  | (.string bytes, d) => bytes.length + uptoBulk d + 1
  | (_, d) => uptoBulk d + 1
 end
def uptoSmall : (H : Type) → List (DataW H) → Bool := fun _ ds => decide (uptoBulkAll ds ≤ 1048576)
def OpenSpec.upto (s : _root_.Go.ChangeSpec) : _root_.Go.OpenSpec := { _root_.Go.OpenSpec.ofChange s with cond := some uptoSmall }

/-- 'gauntletlaw12.TriesKnown', WHERE WHAT IT READS IS OF BULK AT MOST 1048576: true; the input reads as it did. -/
def triesKnownUptoRow : OpenClaim := { program := "ytmedkleidpbgpaa", sum := "f3682b74c90f0719959f9ea8e971142712462b9494e83dc2c88db38128b5f713", func := "gauntlet/gauntletlaw12.TriesKnown", spec := "triesKnown", unfollowed := true, recurses := true, apart := false, narrowed := true }
def TriesKnownUptoSaid : Prop := triesKnownUptoRow.holds Try.pinned (OpenSpec.upto triesKnownSpec)

/-- 'gauntletlaw13.CoversKnown', WHERE WHAT IT READS IS OF BULK AT MOST 1048576: true; the input reads as it did. -/
def coversKnownUptoRow : OpenClaim := { program := "ytmedkleidpbgpaa", sum := "f3682b74c90f0719959f9ea8e971142712462b9494e83dc2c88db38128b5f713", func := "gauntlet/gauntletlaw13.CoversKnown", spec := "coversKnown", unfollowed := true, recurses := true, apart := false, narrowed := true }
def CoversKnownUptoSaid : Prop := coversKnownUptoRow.holds Try.pinned (OpenSpec.upto coversKnownSpec)

end Rows
end Go.Proofs.Ytmedkleidpbgpaa
