/-
  No cell of these rows narrows 'for every input' (looked for: loops, veiled, ifaces, maps, wideKeys, modest, calm, conditions, laid).
  DERIVED. THE GIVEN ROWS OF THIS SEAT. 3 by the template 'for every input the law returns true; each argument reads behind the call as it read before'; 0 by the template 'total and deterministic' (their statements: YtkalhfmehmcofaaGreatTotals.lean).
  GIVEN WITH THE SEED: the statements are not yours to turn. If you find one false, say at which input.
  Laid BY PROGRAM, IN A SANDBOX (cutbox-rows.mjs): the forced cells as the released guide's own fill.sh prints them over the translation 965c667ae73658ef… (all of the seat's roots in one cut). By AI agents, Wed Nov 11 2026. No macro, syntax, notation, axiom, sorry.
-/
import Derived.Test.YtkalhfmehmcofaaGreatChecked
import GoSem.Claim
import GoSem.ClaimJoined
import GoSem.ClaimMapViews
import Derived.JoinedTies
import Derived.KernelRfl
namespace Go.Proofs.YtkalhfmehmcofaaGreat
/- THE CELL 'sum', in the pinned program and in every row, IS THE sha256 OF THE DUMP (.gsa) THAT YtkalhfmehmcofaaGreatProg.lean LOADS. Nothing in Lean hashes anything: it is a label: what it is worth is what the hold of that sum in a sandbox is worth. -/
noncomputable def Tryz.pinned : Pinned := { name := "ytkalhfmehmcofaagreat", sum := "965c667ae73658efeb4b41653bdb1d55c3427991dd0f27c1e933897539eebf72", checked := Tryz.checked }
namespace Rows
def none {H : Type} : Left H := { results := [], args := [] }

/-- 'gauntletlaw18.GapsGap': WHATEVER THE INPUT: true; the input reads as it did. -/
def gapsGapSpec : ChangeSpec := { name := "gapsGap", fn := fun _ => fun
  | [d1, d2, d3] => { results := [.lit (.bool true)], args := [d1, d2, d3] }
  | _ => none }
def gapsGapRow : OpenClaim := { program := "ytkalhfmehmcofaagreat", sum := "965c667ae73658efeb4b41653bdb1d55c3427991dd0f27c1e933897539eebf72", func := "gauntlet/gauntletlaw18.GapsGap", spec := "gapsGap", unfollowed := true, recurses := true, plainKeys := false, apart := false }
def GapsGapSaid : Prop := gapsGapRow.holds Tryz.pinned (OpenSpec.ofChange gapsGapSpec)

/-- ITS FALSE NEIGHBOUR: 'it returns false'. Refute it at one input. -/
def gapsGapWrong : ChangeSpec := { name := "gapsGap", fn := fun _ => fun
  | [d1, d2, d3] => { results := [.lit (.bool false)], args := [d1, d2, d3] }
  | _ => none }
def GapsGapWrongFalsely : Prop := gapsGapRow.holds Tryz.pinned (OpenSpec.ofChange gapsGapWrong)

/-- 'gauntletlaw18.GapsKnown': WHATEVER THE INPUT: true; the input reads as it did. -/
def gapsKnownSpec : ChangeSpec := { name := "gapsKnown", fn := fun _ => fun
  | [] => { results := [.lit (.bool true)], args := [] }
  | _ => none }
def gapsKnownRow : OpenClaim := { program := "ytkalhfmehmcofaagreat", sum := "965c667ae73658efeb4b41653bdb1d55c3427991dd0f27c1e933897539eebf72", func := "gauntlet/gauntletlaw18.GapsKnown", spec := "gapsKnown", unfollowed := true, recurses := true, plainKeys := false, apart := false }
def GapsKnownSaid : Prop := gapsKnownRow.holds Tryz.pinned (OpenSpec.ofChange gapsKnownSpec)

/-- ITS FALSE NEIGHBOUR: 'it returns false'. Refute it at one input. -/
def gapsKnownWrong : ChangeSpec := { name := "gapsKnown", fn := fun _ => fun
  | [] => { results := [.lit (.bool false)], args := [] }
  | _ => none }
def GapsKnownWrongFalsely : Prop := gapsKnownRow.holds Tryz.pinned (OpenSpec.ofChange gapsKnownWrong)

/-- 'gauntletlaw18.GapsSuite': WHATEVER THE INPUT: true; the input reads as it did. -/
def gapsSuiteSpec : ChangeSpec := { name := "gapsSuite", fn := fun _ => fun
  | [d1, d2, d3] => { results := [.lit (.bool true)], args := [d1, d2, d3] }
  | _ => none }
def gapsSuiteRow : OpenClaim := { program := "ytkalhfmehmcofaagreat", sum := "965c667ae73658efeb4b41653bdb1d55c3427991dd0f27c1e933897539eebf72", func := "gauntlet/gauntletlaw18.GapsSuite", spec := "gapsSuite", unfollowed := true, recurses := true, plainKeys := false, apart := false }
def GapsSuiteSaid : Prop := gapsSuiteRow.holds Tryz.pinned (OpenSpec.ofChange gapsSuiteSpec)

/-- ITS FALSE NEIGHBOUR: 'it returns false'. Refute it at one input. -/
def gapsSuiteWrong : ChangeSpec := { name := "gapsSuite", fn := fun _ => fun
  | [d1, d2, d3] => { results := [.lit (.bool false)], args := [d1, d2, d3] }
  | _ => none }
def GapsSuiteWrongFalsely : Prop := gapsSuiteRow.holds Tryz.pinned (OpenSpec.ofChange gapsSuiteWrong)

/- THE SECOND FORM. 'bulk': how many values and letters a reading holds, each counted each time it is reached (what is shared counts as often as it is met; a slice's spare places count too). A statement '..UptoSaid' is the law's where the arguments, and the package variables that the reading takes, are together of bulk at most 1048576: NARROWER than '..Said'. Prove '..Said' where nothing that the law and all that it calls make is longer than what came in: it says more and counts as full. Else prove '..UptoSaid'. A law counts once. -/
mutual
def uptoBulk {H : Type} : DataW H → Nat
  | .lit (.string bytes) => bytes.length + 1
  | .lit _ => 1
  | .nil => 1
  | .ptr d => uptoBulk d + 1
  | .slice elems spare => uptoBulkAll elems + uptoBulkAll spare + 1
  | .agg parts => uptoBulkAll parts + 1
  | .iface _ d => uptoBulk d + 1
  | .map entries => uptoBulkEntries entries + 1
  | .held _ => 1
def uptoBulkAll {H : Type} : List (DataW H) → Nat
  | [] => 0
  | d :: r => uptoBulk d + uptoBulkAll r
def uptoBulkEntries {H : Type} : List (Lit × DataW H) → Nat
  | [] => 0
  | x :: r => uptoBulkEntry x + uptoBulkEntries r
def uptoBulkEntry {H : Type} : Lit × DataW H → Nat
  | (.string bytes, d) => bytes.length + uptoBulk d + 1
  | (_, d) => uptoBulk d + 1
 end
def uptoSmall : (H : Type) → List (DataW H) → Bool := fun _ ds => decide (uptoBulkAll ds ≤ 1048576)
def OpenSpec.upto (s : _root_.Go.ChangeSpec) : _root_.Go.OpenSpec := { _root_.Go.OpenSpec.ofChange s with cond := some uptoSmall }

/-- 'gauntletlaw18.GapsGap', WHERE WHAT IT READS IS OF BULK AT MOST 1048576: true; the input reads as it did. -/
def gapsGapUptoRow : OpenClaim := { program := "ytkalhfmehmcofaagreat", sum := "965c667ae73658efeb4b41653bdb1d55c3427991dd0f27c1e933897539eebf72", func := "gauntlet/gauntletlaw18.GapsGap", spec := "gapsGap", unfollowed := true, recurses := true, plainKeys := false, apart := false, narrowed := true }
def GapsGapUptoSaid : Prop := gapsGapUptoRow.holds Tryz.pinned (OpenSpec.upto gapsGapSpec)

/-- 'gauntletlaw18.GapsKnown', WHERE WHAT IT READS IS OF BULK AT MOST 1048576: true; the input reads as it did. -/
def gapsKnownUptoRow : OpenClaim := { program := "ytkalhfmehmcofaagreat", sum := "965c667ae73658efeb4b41653bdb1d55c3427991dd0f27c1e933897539eebf72", func := "gauntlet/gauntletlaw18.GapsKnown", spec := "gapsKnown", unfollowed := true, recurses := true, plainKeys := false, apart := false, narrowed := true }
def GapsKnownUptoSaid : Prop := gapsKnownUptoRow.holds Tryz.pinned (OpenSpec.upto gapsKnownSpec)

/-- 'gauntletlaw18.GapsSuite', WHERE WHAT IT READS IS OF BULK AT MOST 1048576: true; the input reads as it did. -/
def gapsSuiteUptoRow : OpenClaim := { program := "ytkalhfmehmcofaagreat", sum := "965c667ae73658efeb4b41653bdb1d55c3427991dd0f27c1e933897539eebf72", func := "gauntlet/gauntletlaw18.GapsSuite", spec := "gapsSuite", unfollowed := true, recurses := true, plainKeys := false, apart := false, narrowed := true }
def GapsSuiteUptoSaid : Prop := gapsSuiteUptoRow.holds Tryz.pinned (OpenSpec.upto gapsSuiteSpec)

end Rows
end Go.Proofs.YtkalhfmehmcofaaGreat
