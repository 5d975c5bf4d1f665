/-
  No cell of these rows narrows 'for every input' (looked for: loops, veiled, ifaces, maps, wideKeys, modest, calm, conditions, laid).
  DERIVED. THE GIVEN ROWS OF THIS SEAT. 6 by the template 'for every input the law returns true; each argument reads behind the call as it read before'; 0 by the template 'total and deterministic' (their statements: YtedigoohmnbjfaaGreatTotals.lean).
  GIVEN WITH THE SEED: the statements are not yours to turn. If you find one false, say at which input.
  Laid BY PROGRAM, IN A SANDBOX (cutbox-rows.mjs): the forced cells as the released guide's own fill.sh prints them over the translation 9616e57fd8b9a10c… (all of the seat's roots in one cut). By AI agents, Wed Nov 11 2026. No macro, syntax, notation, axiom, sorry.
-/
import Derived.Test.YtedigoohmnbjfaaGreatChecked
import GoSem.Claim
import GoSem.ClaimJoined
import GoSem.ClaimMapViews
import Derived.JoinedTies
import Derived.KernelRfl
namespace Go.Proofs.YtedigoohmnbjfaaGreat
/- THE CELL 'sum', in the pinned program and in every row, IS THE sha256 OF THE DUMP (.gsa) THAT YtedigoohmnbjfaaGreatProg.lean LOADS. Nothing in Lean hashes anything: it is a label: what it is worth is what the hold of that sum in a sandbox is worth. -/
noncomputable def Tryz.pinned : Pinned := { name := "ytedigoohmnbjfaagreat", sum := "9616e57fd8b9a10cdb314ff84b2a87512ac77744c43492bc09dc6d0e84a09445", checked := Tryz.checked }
namespace Rows
def none {H : Type} : Left H := { results := [], args := [] }

/-- 'gauntletlaw17.SuitesBuild': WHATEVER THE INPUT: true; the input reads as it did. -/
def suitesBuildSpec : ChangeSpec := { name := "suitesBuild", fn := fun _ => fun
  | [d1, d2] => { results := [.lit (.bool true)], args := [d1, d2] }
  | _ => none }
def suitesBuildRow : OpenClaim := { program := "ytedigoohmnbjfaagreat", sum := "9616e57fd8b9a10cdb314ff84b2a87512ac77744c43492bc09dc6d0e84a09445", func := "gauntlet/gauntletlaw17.SuitesBuild", spec := "suitesBuild", unfollowed := true, recurses := true, plainKeys := false, apart := false }
def SuitesBuildSaid : Prop := suitesBuildRow.holds Tryz.pinned (OpenSpec.ofChange suitesBuildSpec)

/-- ITS FALSE NEIGHBOUR: 'it returns false'. Refute it at one input. -/
def suitesBuildWrong : ChangeSpec := { name := "suitesBuild", fn := fun _ => fun
  | [d1, d2] => { results := [.lit (.bool false)], args := [d1, d2] }
  | _ => none }
def SuitesBuildWrongFalsely : Prop := suitesBuildRow.holds Tryz.pinned (OpenSpec.ofChange suitesBuildWrong)

/-- 'gauntletlaw17.SuitesBudget': WHATEVER THE INPUT: true; the input reads as it did. -/
def suitesBudgetSpec : ChangeSpec := { name := "suitesBudget", fn := fun _ => fun
  | [d1, d2] => { results := [.lit (.bool true)], args := [d1, d2] }
  | _ => none }
def suitesBudgetRow : OpenClaim := { program := "ytedigoohmnbjfaagreat", sum := "9616e57fd8b9a10cdb314ff84b2a87512ac77744c43492bc09dc6d0e84a09445", func := "gauntlet/gauntletlaw17.SuitesBudget", spec := "suitesBudget", unfollowed := true, recurses := true, plainKeys := false, apart := false }
def SuitesBudgetSaid : Prop := suitesBudgetRow.holds Tryz.pinned (OpenSpec.ofChange suitesBudgetSpec)

/-- ITS FALSE NEIGHBOUR: 'it returns false'. Refute it at one input. -/
def suitesBudgetWrong : ChangeSpec := { name := "suitesBudget", fn := fun _ => fun
  | [d1, d2] => { results := [.lit (.bool false)], args := [d1, d2] }
  | _ => none }
def SuitesBudgetWrongFalsely : Prop := suitesBudgetRow.holds Tryz.pinned (OpenSpec.ofChange suitesBudgetWrong)

/-- 'gauntletlaw17.SuitesFind': WHATEVER THE INPUT: true; the input reads as it did. -/
def suitesFindSpec : ChangeSpec := { name := "suitesFind", fn := fun _ => fun
  | [d1, d2, d3] => { results := [.lit (.bool true)], args := [d1, d2, d3] }
  | _ => none }
def suitesFindRow : OpenClaim := { program := "ytedigoohmnbjfaagreat", sum := "9616e57fd8b9a10cdb314ff84b2a87512ac77744c43492bc09dc6d0e84a09445", func := "gauntlet/gauntletlaw17.SuitesFind", spec := "suitesFind", unfollowed := true, recurses := true, plainKeys := false, apart := false }
def SuitesFindSaid : Prop := suitesFindRow.holds Tryz.pinned (OpenSpec.ofChange suitesFindSpec)

/-- ITS FALSE NEIGHBOUR: 'it returns false'. Refute it at one input. -/
def suitesFindWrong : ChangeSpec := { name := "suitesFind", fn := fun _ => fun
  | [d1, d2, d3] => { results := [.lit (.bool false)], args := [d1, d2, d3] }
  | _ => none }
def SuitesFindWrongFalsely : Prop := suitesFindRow.holds Tryz.pinned (OpenSpec.ofChange suitesFindWrong)

/-- 'gauntletlaw17.SuitesAny': WHATEVER THE INPUT: true; the input reads as it did. -/
def suitesAnySpec : ChangeSpec := { name := "suitesAny", fn := fun _ => fun
  | [d1, d2] => { results := [.lit (.bool true)], args := [d1, d2] }
  | _ => none }
def suitesAnyRow : OpenClaim := { program := "ytedigoohmnbjfaagreat", sum := "9616e57fd8b9a10cdb314ff84b2a87512ac77744c43492bc09dc6d0e84a09445", func := "gauntlet/gauntletlaw17.SuitesAny", spec := "suitesAny", unfollowed := true, recurses := true, plainKeys := false, apart := false }
def SuitesAnySaid : Prop := suitesAnyRow.holds Tryz.pinned (OpenSpec.ofChange suitesAnySpec)

/-- ITS FALSE NEIGHBOUR: 'it returns false'. Refute it at one input. -/
def suitesAnyWrong : ChangeSpec := { name := "suitesAny", fn := fun _ => fun
  | [d1, d2] => { results := [.lit (.bool false)], args := [d1, d2] }
  | _ => none }
def SuitesAnyWrongFalsely : Prop := suitesAnyRow.holds Tryz.pinned (OpenSpec.ofChange suitesAnyWrong)

/-- 'gauntletlaw17.SuitesAgree': WHATEVER THE INPUT: true; the input reads as it did. -/
def suitesAgreeSpec : ChangeSpec := { name := "suitesAgree", fn := fun _ => fun
  | [d1, d2, d3] => { results := [.lit (.bool true)], args := [d1, d2, d3] }
  | _ => none }
def suitesAgreeRow : OpenClaim := { program := "ytedigoohmnbjfaagreat", sum := "9616e57fd8b9a10cdb314ff84b2a87512ac77744c43492bc09dc6d0e84a09445", func := "gauntlet/gauntletlaw17.SuitesAgree", spec := "suitesAgree", unfollowed := true, recurses := true, plainKeys := false, apart := false }
def SuitesAgreeSaid : Prop := suitesAgreeRow.holds Tryz.pinned (OpenSpec.ofChange suitesAgreeSpec)

/-- ITS FALSE NEIGHBOUR: 'it returns false'. Refute it at one input. -/
def suitesAgreeWrong : ChangeSpec := { name := "suitesAgree", fn := fun _ => fun
  | [d1, d2, d3] => { results := [.lit (.bool false)], args := [d1, d2, d3] }
  | _ => none }
def SuitesAgreeWrongFalsely : Prop := suitesAgreeRow.holds Tryz.pinned (OpenSpec.ofChange suitesAgreeWrong)

/-- 'gauntletlaw17.SuitesWithin': WHATEVER THE INPUT: true; the input reads as it did. -/
def suitesWithinSpec : ChangeSpec := { name := "suitesWithin", fn := fun _ => fun
  | [d1, d2] => { results := [.lit (.bool true)], args := [d1, d2] }
  | _ => none }
def suitesWithinRow : OpenClaim := { program := "ytedigoohmnbjfaagreat", sum := "9616e57fd8b9a10cdb314ff84b2a87512ac77744c43492bc09dc6d0e84a09445", func := "gauntlet/gauntletlaw17.SuitesWithin", spec := "suitesWithin", unfollowed := true, recurses := true, plainKeys := false, apart := false }
def SuitesWithinSaid : Prop := suitesWithinRow.holds Tryz.pinned (OpenSpec.ofChange suitesWithinSpec)

/-- ITS FALSE NEIGHBOUR: 'it returns false'. Refute it at one input. -/
def suitesWithinWrong : ChangeSpec := { name := "suitesWithin", fn := fun _ => fun
  | [d1, d2] => { results := [.lit (.bool false)], args := [d1, d2] }
  | _ => none }
def SuitesWithinWrongFalsely : Prop := suitesWithinRow.holds Tryz.pinned (OpenSpec.ofChange suitesWithinWrong)

/- THE SECOND FORM. 'bulk': how many values and letters a reading holds, each counted each time it is reached (what is shared counts as often as it is met; a slice's spare places count too). A statement '..UptoSaid' is the law's where the arguments, and the package variables that the reading takes, are together of bulk at most 1048576: NARROWER than '..Said'. Prove '..Said' where nothing that the law and all that it calls make is longer than what came in: it says more and counts as full. Else prove '..UptoSaid'. A law counts once. -/
mutual
def uptoBulk {H : Type} : DataW H → Nat
  | .lit (.string bytes) => bytes.length + 1
  | .lit _ => 1
  | .nil => 1
  | .ptr d => uptoBulk d + 1
  | .slice elems spare => uptoBulkAll elems + uptoBulkAll spare + 1
  | .agg parts => uptoBulkAll parts + 1
  | .iface _ d => uptoBulk d + 1
  | .map entries => uptoBulkEntries entries + 1
  | .held _ => 1
def uptoBulkAll {H : Type} : List (DataW H) → Nat
  | [] => 0
  | d :: r => uptoBulk d + uptoBulkAll r
def uptoBulkEntries {H : Type} : List (Lit × DataW H) → Nat
  | [] => 0
  | x :: r => uptoBulkEntry x + uptoBulkEntries r
def uptoBulkEntry {H : Type} : Lit × DataW H → Nat
  | (.string bytes, d) => bytes.length + uptoBulk d + 1
  | (_, d) => uptoBulk d + 1
 end
def uptoSmall : (H : Type) → List (DataW H) → Bool := fun _ ds => decide (uptoBulkAll ds ≤ 1048576)
def OpenSpec.upto (s : _root_.Go.ChangeSpec) : _root_.Go.OpenSpec := { _root_.Go.OpenSpec.ofChange s with cond := some uptoSmall }

/-- 'gauntletlaw17.SuitesBuild', WHERE WHAT IT READS IS OF BULK AT MOST 1048576: true; the input reads as it did. -/
def suitesBuildUptoRow : OpenClaim := { program := "ytedigoohmnbjfaagreat", sum := "9616e57fd8b9a10cdb314ff84b2a87512ac77744c43492bc09dc6d0e84a09445", func := "gauntlet/gauntletlaw17.SuitesBuild", spec := "suitesBuild", unfollowed := true, recurses := true, plainKeys := false, apart := false, narrowed := true }
def SuitesBuildUptoSaid : Prop := suitesBuildUptoRow.holds Tryz.pinned (OpenSpec.upto suitesBuildSpec)

/-- 'gauntletlaw17.SuitesBudget', WHERE WHAT IT READS IS OF BULK AT MOST 1048576: true; the input reads as it did. -/
def suitesBudgetUptoRow : OpenClaim := { program := "ytedigoohmnbjfaagreat", sum := "9616e57fd8b9a10cdb314ff84b2a87512ac77744c43492bc09dc6d0e84a09445", func := "gauntlet/gauntletlaw17.SuitesBudget", spec := "suitesBudget", unfollowed := true, recurses := true, plainKeys := false, apart := false, narrowed := true }
def SuitesBudgetUptoSaid : Prop := suitesBudgetUptoRow.holds Tryz.pinned (OpenSpec.upto suitesBudgetSpec)

/-- 'gauntletlaw17.SuitesFind', WHERE WHAT IT READS IS OF BULK AT MOST 1048576: true; the input reads as it did. -/
def suitesFindUptoRow : OpenClaim := { program := "ytedigoohmnbjfaagreat", sum := "9616e57fd8b9a10cdb314ff84b2a87512ac77744c43492bc09dc6d0e84a09445", func := "gauntlet/gauntletlaw17.SuitesFind", spec := "suitesFind", unfollowed := true, recurses := true, plainKeys := false, apart := false, narrowed := true }
def SuitesFindUptoSaid : Prop := suitesFindUptoRow.holds Tryz.pinned (OpenSpec.upto suitesFindSpec)

/-- 'gauntletlaw17.SuitesAny', WHERE WHAT IT READS IS OF BULK AT MOST 1048576: true; the input reads as it did. -/
def suitesAnyUptoRow : OpenClaim := { program := "ytedigoohmnbjfaagreat", sum := "9616e57fd8b9a10cdb314ff84b2a87512ac77744c43492bc09dc6d0e84a09445", func := "gauntlet/gauntletlaw17.SuitesAny", spec := "suitesAny", unfollowed := true, recurses := true, plainKeys := false, apart := false, narrowed := true }
def SuitesAnyUptoSaid : Prop := suitesAnyUptoRow.holds Tryz.pinned (OpenSpec.upto suitesAnySpec)

/-- 'gauntletlaw17.SuitesAgree', WHERE WHAT IT READS IS OF BULK AT MOST 1048576: true; the input reads as it did. -/
def suitesAgreeUptoRow : OpenClaim := { program := "ytedigoohmnbjfaagreat", sum := "9616e57fd8b9a10cdb314ff84b2a87512ac77744c43492bc09dc6d0e84a09445", func := "gauntlet/gauntletlaw17.SuitesAgree", spec := "suitesAgree", unfollowed := true, recurses := true, plainKeys := false, apart := false, narrowed := true }
def SuitesAgreeUptoSaid : Prop := suitesAgreeUptoRow.holds Tryz.pinned (OpenSpec.upto suitesAgreeSpec)

/-- 'gauntletlaw17.SuitesWithin', WHERE WHAT IT READS IS OF BULK AT MOST 1048576: true; the input reads as it did. -/
def suitesWithinUptoRow : OpenClaim := { program := "ytedigoohmnbjfaagreat", sum := "9616e57fd8b9a10cdb314ff84b2a87512ac77744c43492bc09dc6d0e84a09445", func := "gauntlet/gauntletlaw17.SuitesWithin", spec := "suitesWithin", unfollowed := true, recurses := true, plainKeys := false, apart := false, narrowed := true }
def SuitesWithinUptoSaid : Prop := suitesWithinUptoRow.holds Tryz.pinned (OpenSpec.upto suitesWithinSpec)

end Rows
end Go.Proofs.YtedigoohmnbjfaaGreat
