/-
  No cell of these rows narrows 'for every input' (looked for: loops, veiled, ifaces, maps, wideKeys, modest, calm, conditions, laid).
  DERIVED. THE GIVEN ROWS OF THIS SEAT. 4 by the template 'for every input the law returns true; each argument reads behind the call as it read before'; 0 by the template 'total and deterministic' (their statements: YthnpknbgpmlbhaaGreatTotals.lean).
  GIVEN WITH THE SEED: the statements are not yours to turn. If you find one false, say at which input.
  Laid BY PROGRAM, IN A SANDBOX (cutbox-rows.mjs): the forced cells as the released guide's own fill.sh prints them over the translation ef5e52a148c50fb4… (all of the seat's roots in one cut). By AI agents, Wed Nov 11 2026. No macro, syntax, notation, axiom, sorry.
-/
import Derived.Test.YthnpknbgpmlbhaaGreatChecked
import GoSem.Claim
import GoSem.ClaimJoined
import GoSem.ClaimMapViews
import Derived.JoinedTies
import Derived.KernelRfl
namespace Go.Proofs.YthnpknbgpmlbhaaGreat
/- THE CELL 'sum', in the pinned program and in every row, IS THE sha256 OF THE DUMP (.gsa) THAT YthnpknbgpmlbhaaGreatProg.lean LOADS. Nothing in Lean hashes anything: it is a label: what it is worth is what the hold of that sum in a sandbox is worth. -/
noncomputable def Tryz.pinned : Pinned := { name := "ythnpknbgpmlbhaagreat", sum := "ef5e52a148c50fb46825005fea90db75ece55f596bbc81d380a1963b16597fa8", checked := Tryz.checked }
namespace Rows
def none {H : Type} : Left H := { results := [], args := [] }

/-- 'gauntletlaw13.CoversSwitches': WHATEVER THE INPUT: true; the input reads as it did. -/
def coversSwitchesSpec : ChangeSpec := { name := "coversSwitches", fn := fun _ => fun
  | [d1, d2] => { results := [.lit (.bool true)], args := [d1, d2] }
  | _ => none }
def coversSwitchesRow : OpenClaim := { program := "ythnpknbgpmlbhaagreat", sum := "ef5e52a148c50fb46825005fea90db75ece55f596bbc81d380a1963b16597fa8", func := "gauntlet/gauntletlaw13.CoversSwitches", spec := "coversSwitches", unfollowed := true, recurses := true, apart := false }
def CoversSwitchesSaid : Prop := coversSwitchesRow.holds Tryz.pinned (OpenSpec.ofChange coversSwitchesSpec)

/-- ITS FALSE NEIGHBOUR: 'it returns false'. Refute it at one input. -/
def coversSwitchesWrong : ChangeSpec := { name := "coversSwitches", fn := fun _ => fun
  | [d1, d2] => { results := [.lit (.bool false)], args := [d1, d2] }
  | _ => none }
def CoversSwitchesWrongFalsely : Prop := coversSwitchesRow.holds Tryz.pinned (OpenSpec.ofChange coversSwitchesWrong)

/-- 'gauntletlaw13.CoversCovered': WHATEVER THE INPUT: true; the input reads as it did. -/
def coversCoveredSpec : ChangeSpec := { name := "coversCovered", fn := fun _ => fun
  | [d1, d2] => { results := [.lit (.bool true)], args := [d1, d2] }
  | _ => none }
def coversCoveredRow : OpenClaim := { program := "ythnpknbgpmlbhaagreat", sum := "ef5e52a148c50fb46825005fea90db75ece55f596bbc81d380a1963b16597fa8", func := "gauntlet/gauntletlaw13.CoversCovered", spec := "coversCovered", unfollowed := true, recurses := true, apart := false }
def CoversCoveredSaid : Prop := coversCoveredRow.holds Tryz.pinned (OpenSpec.ofChange coversCoveredSpec)

/-- ITS FALSE NEIGHBOUR: 'it returns false'. Refute it at one input. -/
def coversCoveredWrong : ChangeSpec := { name := "coversCovered", fn := fun _ => fun
  | [d1, d2] => { results := [.lit (.bool false)], args := [d1, d2] }
  | _ => none }
def CoversCoveredWrongFalsely : Prop := coversCoveredRow.holds Tryz.pinned (OpenSpec.ofChange coversCoveredWrong)

/-- 'gauntletlaw13.CoversAny': WHATEVER THE INPUT: true; the input reads as it did. -/
def coversAnySpec : ChangeSpec := { name := "coversAny", fn := fun _ => fun
  | [d1, d2, d3] => { results := [.lit (.bool true)], args := [d1, d2, d3] }
  | _ => none }
def coversAnyRow : OpenClaim := { program := "ythnpknbgpmlbhaagreat", sum := "ef5e52a148c50fb46825005fea90db75ece55f596bbc81d380a1963b16597fa8", func := "gauntlet/gauntletlaw13.CoversAny", spec := "coversAny", unfollowed := true, recurses := true, apart := false }
def CoversAnySaid : Prop := coversAnyRow.holds Tryz.pinned (OpenSpec.ofChange coversAnySpec)

/-- ITS FALSE NEIGHBOUR: 'it returns false'. Refute it at one input. -/
def coversAnyWrong : ChangeSpec := { name := "coversAny", fn := fun _ => fun
  | [d1, d2, d3] => { results := [.lit (.bool false)], args := [d1, d2, d3] }
  | _ => none }
def CoversAnyWrongFalsely : Prop := coversAnyRow.holds Tryz.pinned (OpenSpec.ofChange coversAnyWrong)

/-- 'gauntletlaw13.CoversReduced': WHATEVER THE INPUT: true; the input reads as it did. -/
def coversReducedSpec : ChangeSpec := { name := "coversReduced", fn := fun _ => fun
  | [d1, d2] => { results := [.lit (.bool true)], args := [d1, d2] }
  | _ => none }
def coversReducedRow : OpenClaim := { program := "ythnpknbgpmlbhaagreat", sum := "ef5e52a148c50fb46825005fea90db75ece55f596bbc81d380a1963b16597fa8", func := "gauntlet/gauntletlaw13.CoversReduced", spec := "coversReduced", unfollowed := true, recurses := true, apart := false }
def CoversReducedSaid : Prop := coversReducedRow.holds Tryz.pinned (OpenSpec.ofChange coversReducedSpec)

/-- ITS FALSE NEIGHBOUR: 'it returns false'. Refute it at one input. -/
def coversReducedWrong : ChangeSpec := { name := "coversReduced", fn := fun _ => fun
  | [d1, d2] => { results := [.lit (.bool false)], args := [d1, d2] }
  | _ => none }
def CoversReducedWrongFalsely : Prop := coversReducedRow.holds Tryz.pinned (OpenSpec.ofChange coversReducedWrong)

/- THE SECOND FORM. 'bulk': how many values and letters a reading holds, each counted each time it is reached (what is shared counts as often as it is met; a slice's spare places count too). A statement '..UptoSaid' is the law's where the arguments, and the package variables that the reading takes, are together of bulk at most 1048576: NARROWER than '..Said'. Prove '..Said' where nothing that the law and all that it calls make is longer than what came in: it says more and counts as full. Else prove '..UptoSaid'. A law counts once. -/
mutual
def uptoBulk {H : Type} : DataW H → Nat
  | .lit (.string bytes) => bytes.length + 1
  | .lit _ => 1
  | .nil => 1
  | .ptr d => uptoBulk d + 1
  | .slice elems spare => uptoBulkAll elems + uptoBulkAll spare + 1
  | .agg parts => uptoBulkAll parts + 1
  | .iface _ d => uptoBulk d + 1
  | .map entries => uptoBulkEntries entries + 1
  | .held _ => 1
def uptoBulkAll {H : Type} : List (DataW H) → Nat
  | [] => 0
  | d :: r => uptoBulk d + uptoBulkAll r
def uptoBulkEntries {H : Type} : List (Lit × DataW H) → Nat
  | [] => 0
  | x :: r => uptoBulkEntry x + uptoBulkEntries r
def uptoBulkEntry {H : Type} : Lit × DataW H → Nat
  | (.string bytes, d) => bytes.length + uptoBulk d + 1
  | (_, d) => uptoBulk d + 1
 end
def uptoSmall : (H : Type) → List (DataW H) → Bool := fun _ ds => decide (uptoBulkAll ds ≤ 1048576)
def OpenSpec.upto (s : _root_.Go.ChangeSpec) : _root_.Go.OpenSpec := { _root_.Go.OpenSpec.ofChange s with cond := some uptoSmall }

/-- 'gauntletlaw13.CoversSwitches', WHERE WHAT IT READS IS OF BULK AT MOST 1048576: true; the input reads as it did. -/
def coversSwitchesUptoRow : OpenClaim := { program := "ythnpknbgpmlbhaagreat", sum := "ef5e52a148c50fb46825005fea90db75ece55f596bbc81d380a1963b16597fa8", func := "gauntlet/gauntletlaw13.CoversSwitches", spec := "coversSwitches", unfollowed := true, recurses := true, apart := false, narrowed := true }
def CoversSwitchesUptoSaid : Prop := coversSwitchesUptoRow.holds Tryz.pinned (OpenSpec.upto coversSwitchesSpec)

/-- 'gauntletlaw13.CoversCovered', WHERE WHAT IT READS IS OF BULK AT MOST 1048576: true; the input reads as it did. -/
def coversCoveredUptoRow : OpenClaim := { program := "ythnpknbgpmlbhaagreat", sum := "ef5e52a148c50fb46825005fea90db75ece55f596bbc81d380a1963b16597fa8", func := "gauntlet/gauntletlaw13.CoversCovered", spec := "coversCovered", unfollowed := true, recurses := true, apart := false, narrowed := true }
def CoversCoveredUptoSaid : Prop := coversCoveredUptoRow.holds Tryz.pinned (OpenSpec.upto coversCoveredSpec)

/-- 'gauntletlaw13.CoversAny', WHERE WHAT IT READS IS OF BULK AT MOST 1048576: true; the input reads as it did. -/
def coversAnyUptoRow : OpenClaim := { program := "ythnpknbgpmlbhaagreat", sum := "ef5e52a148c50fb46825005fea90db75ece55f596bbc81d380a1963b16597fa8", func := "gauntlet/gauntletlaw13.CoversAny", spec := "coversAny", unfollowed := true, recurses := true, apart := false, narrowed := true }
def CoversAnyUptoSaid : Prop := coversAnyUptoRow.holds Tryz.pinned (OpenSpec.upto coversAnySpec)

/-- 'gauntletlaw13.CoversReduced', WHERE WHAT IT READS IS OF BULK AT MOST 1048576: true; the input reads as it did. -/
def coversReducedUptoRow : OpenClaim := { program := "ythnpknbgpmlbhaagreat", sum := "ef5e52a148c50fb46825005fea90db75ece55f596bbc81d380a1963b16597fa8", func := "gauntlet/gauntletlaw13.CoversReduced", spec := "coversReduced", unfollowed := true, recurses := true, apart := false, narrowed := true }
def CoversReducedUptoSaid : Prop := coversReducedUptoRow.holds Tryz.pinned (OpenSpec.upto coversReducedSpec)

end Rows
end Go.Proofs.YthnpknbgpmlbhaaGreat
