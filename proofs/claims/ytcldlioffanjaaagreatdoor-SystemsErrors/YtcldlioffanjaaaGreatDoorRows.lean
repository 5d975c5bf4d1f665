/-
  NARROWER THAN 'FOR EVERY INPUT', by the rows' own cells (each row's printed sentence says how): SystemsDeadlock: laid · SystemsProduct: laid · SystemsMoves: laid · SystemsRoom: laid · SystemsErrors: laid · SystemsKnown: laid.
  DERIVED. THE GIVEN ROWS OF THIS SEAT. 6 by the template 'for every input the law returns true; each argument reads behind the call as it read before'; 0 by the template 'total and deterministic' (their statements: YtcldlioffanjaaaGreatDoorTotals.lean).
  GIVEN WITH THE SEED: the statements are not yours to turn. If you find one false, say at which input.
  Laid BY PROGRAM, IN A SANDBOX (cutbox-rows.mjs): the forced cells as the released guide's own fill.sh prints them over the translation be36c2522650ae22… (all of the seat's roots in one cut). By AI agents, Wed Nov 11 2026. No macro, syntax, notation, axiom, sorry.
-/
import Derived.Test.YtcldlioffanjaaaGreatDoorChecked
import GoSem.Claim
import GoSem.ClaimJoined
import GoSem.ClaimMapViews
import Derived.JoinedTies
import Derived.KernelRfl
namespace Go.Proofs.YtcldlioffanjaaaGreatDoor
/- THE CELL 'sum', in the pinned program and in every row, IS THE sha256 OF THE DUMP (.gsa) THAT YtcldlioffanjaaaGreatDoorProg.lean LOADS. Nothing in Lean hashes anything: it is a label: what it is worth is what the hold of that sum in a sandbox is worth. -/
noncomputable def Tryz.pinned : Pinned := { name := "ytcldlioffanjaaagreatdoor", sum := "be36c2522650ae220737c2d294fdda4ed8690b1d821fda4f79d61590281db9c8", checked := Tryz.checked }
namespace Rows
def none {H : Type} : Left H := { results := [], args := [] }

/- WHAT THE LISTED PACKAGE-LEVEL VARIABLES READ AS WHEN THE CALL BEGINS. Each datum BY PROGRAM (the guide's laid-datum.mjs) off the statement by which the dump's own 'gosem.cut.vars' lays the variable. In a bare row this is a premise. The card (YtcldlioffanjaaaGreatDoorCards.lean) ties it to the program's text. -/
def laid_gauntlet_systems_errNo {H : Type} : DataW H := .iface "*errors.errorString" (.ptr (.agg [.lit (.string [115, 121, 115, 116, 101, 109, 115, 58, 32, 116, 104, 105, 115, 32, 99, 97, 110, 110, 111, 116, 32, 98, 101, 32, 100, 111, 110, 101, 32, 110, 111, 119])]))

/-- 'gauntletlaw31.SystemsDeadlock': WHATEVER THE INPUT: true; the input reads as it did. -/
def systemsDeadlockSpec : ChangeSpec := { name := "systemsDeadlock", fn := fun _ => fun
  | [d] => { results := [.lit (.bool true)], args := [d] }
  | _ => none }
def systemsDeadlockRow : OpenClaim := { program := "ytcldlioffanjaaagreatdoor", sum := "be36c2522650ae220737c2d294fdda4ed8690b1d821fda4f79d61590281db9c8", func := "gauntlet/gauntletlaw31.SystemsDeadlock", spec := "systemsDeadlock", inPlace := ["internal/reflectlite.TypeOf"], unfollowed := true, recurses := true, named := ["gauntlet/systems.errNo"], plainKeys := false, apart := false, laid := [("gauntlet/systems.errNo", laid_gauntlet_systems_errNo)] }
def SystemsDeadlockSaid : Prop := systemsDeadlockRow.holds Tryz.pinned (OpenSpec.ofChange systemsDeadlockSpec)

/-- ITS FALSE NEIGHBOUR: 'it returns false'. Refute it at one input. -/
def systemsDeadlockWrong : ChangeSpec := { name := "systemsDeadlock", fn := fun _ => fun
  | [d] => { results := [.lit (.bool false)], args := [d] }
  | _ => none }
def SystemsDeadlockWrongFalsely : Prop := systemsDeadlockRow.holds Tryz.pinned (OpenSpec.ofChange systemsDeadlockWrong)

/-- 'gauntletlaw31.SystemsProduct': WHATEVER THE INPUT: true; the input reads as it did. -/
def systemsProductSpec : ChangeSpec := { name := "systemsProduct", fn := fun _ => fun
  | [d1, d2] => { results := [.lit (.bool true)], args := [d1, d2] }
  | _ => none }
def systemsProductRow : OpenClaim := { program := "ytcldlioffanjaaagreatdoor", sum := "be36c2522650ae220737c2d294fdda4ed8690b1d821fda4f79d61590281db9c8", func := "gauntlet/gauntletlaw31.SystemsProduct", spec := "systemsProduct", inPlace := ["internal/reflectlite.TypeOf"], unfollowed := true, recurses := true, named := ["gauntlet/systems.errNo"], plainKeys := false, apart := false, laid := [("gauntlet/systems.errNo", laid_gauntlet_systems_errNo)] }
def SystemsProductSaid : Prop := systemsProductRow.holds Tryz.pinned (OpenSpec.ofChange systemsProductSpec)

/-- ITS FALSE NEIGHBOUR: 'it returns false'. Refute it at one input. -/
def systemsProductWrong : ChangeSpec := { name := "systemsProduct", fn := fun _ => fun
  | [d1, d2] => { results := [.lit (.bool false)], args := [d1, d2] }
  | _ => none }
def SystemsProductWrongFalsely : Prop := systemsProductRow.holds Tryz.pinned (OpenSpec.ofChange systemsProductWrong)

/-- 'gauntletlaw31.SystemsMoves': WHATEVER THE INPUT: true; the input reads as it did. -/
def systemsMovesSpec : ChangeSpec := { name := "systemsMoves", fn := fun _ => fun
  | [d1, d2, d3] => { results := [.lit (.bool true)], args := [d1, d2, d3] }
  | _ => none }
def systemsMovesRow : OpenClaim := { program := "ytcldlioffanjaaagreatdoor", sum := "be36c2522650ae220737c2d294fdda4ed8690b1d821fda4f79d61590281db9c8", func := "gauntlet/gauntletlaw31.SystemsMoves", spec := "systemsMoves", inPlace := ["internal/reflectlite.TypeOf"], unfollowed := true, recurses := true, named := ["gauntlet/systems.errNo"], plainKeys := false, apart := false, laid := [("gauntlet/systems.errNo", laid_gauntlet_systems_errNo)] }
def SystemsMovesSaid : Prop := systemsMovesRow.holds Tryz.pinned (OpenSpec.ofChange systemsMovesSpec)

/-- ITS FALSE NEIGHBOUR: 'it returns false'. Refute it at one input. -/
def systemsMovesWrong : ChangeSpec := { name := "systemsMoves", fn := fun _ => fun
  | [d1, d2, d3] => { results := [.lit (.bool false)], args := [d1, d2, d3] }
  | _ => none }
def SystemsMovesWrongFalsely : Prop := systemsMovesRow.holds Tryz.pinned (OpenSpec.ofChange systemsMovesWrong)

/-- 'gauntletlaw31.SystemsRoom': WHATEVER THE INPUT: true; the input reads as it did. -/
def systemsRoomSpec : ChangeSpec := { name := "systemsRoom", fn := fun _ => fun
  | [d1, d2] => { results := [.lit (.bool true)], args := [d1, d2] }
  | _ => none }
def systemsRoomRow : OpenClaim := { program := "ytcldlioffanjaaagreatdoor", sum := "be36c2522650ae220737c2d294fdda4ed8690b1d821fda4f79d61590281db9c8", func := "gauntlet/gauntletlaw31.SystemsRoom", spec := "systemsRoom", inPlace := ["internal/reflectlite.TypeOf"], unfollowed := true, recurses := true, named := ["gauntlet/systems.errNo"], plainKeys := false, apart := false, laid := [("gauntlet/systems.errNo", laid_gauntlet_systems_errNo)] }
def SystemsRoomSaid : Prop := systemsRoomRow.holds Tryz.pinned (OpenSpec.ofChange systemsRoomSpec)

/-- ITS FALSE NEIGHBOUR: 'it returns false'. Refute it at one input. -/
def systemsRoomWrong : ChangeSpec := { name := "systemsRoom", fn := fun _ => fun
  | [d1, d2] => { results := [.lit (.bool false)], args := [d1, d2] }
  | _ => none }
def SystemsRoomWrongFalsely : Prop := systemsRoomRow.holds Tryz.pinned (OpenSpec.ofChange systemsRoomWrong)

/-- 'gauntletlaw31.SystemsErrors': WHATEVER THE INPUT: true; the input reads as it did. -/
def systemsErrorsSpec : ChangeSpec := { name := "systemsErrors", fn := fun _ => fun
  | [d1, d2, d3] => { results := [.lit (.bool true)], args := [d1, d2, d3] }
  | _ => none }
def systemsErrorsRow : OpenClaim := { program := "ytcldlioffanjaaagreatdoor", sum := "be36c2522650ae220737c2d294fdda4ed8690b1d821fda4f79d61590281db9c8", func := "gauntlet/gauntletlaw31.SystemsErrors", spec := "systemsErrors", inPlace := ["internal/reflectlite.TypeOf"], unfollowed := true, recurses := true, named := ["gauntlet/systems.errNo"], plainKeys := false, apart := false, laid := [("gauntlet/systems.errNo", laid_gauntlet_systems_errNo)] }
def SystemsErrorsSaid : Prop := systemsErrorsRow.holds Tryz.pinned (OpenSpec.ofChange systemsErrorsSpec)

/-- ITS FALSE NEIGHBOUR: 'it returns false'. Refute it at one input. -/
def systemsErrorsWrong : ChangeSpec := { name := "systemsErrors", fn := fun _ => fun
  | [d1, d2, d3] => { results := [.lit (.bool false)], args := [d1, d2, d3] }
  | _ => none }
def SystemsErrorsWrongFalsely : Prop := systemsErrorsRow.holds Tryz.pinned (OpenSpec.ofChange systemsErrorsWrong)

/-- 'gauntletlaw31.SystemsKnown': WHATEVER THE INPUT: true; the input reads as it did. -/
def systemsKnownSpec : ChangeSpec := { name := "systemsKnown", fn := fun _ => fun
  | [] => { results := [.lit (.bool true)], args := [] }
  | _ => none }
def systemsKnownRow : OpenClaim := { program := "ytcldlioffanjaaagreatdoor", sum := "be36c2522650ae220737c2d294fdda4ed8690b1d821fda4f79d61590281db9c8", func := "gauntlet/gauntletlaw31.SystemsKnown", spec := "systemsKnown", inPlace := ["internal/reflectlite.TypeOf"], unfollowed := true, recurses := true, named := ["gauntlet/systems.errNo"], plainKeys := false, apart := false, laid := [("gauntlet/systems.errNo", laid_gauntlet_systems_errNo)] }
def SystemsKnownSaid : Prop := systemsKnownRow.holds Tryz.pinned (OpenSpec.ofChange systemsKnownSpec)

/-- ITS FALSE NEIGHBOUR: 'it returns false'. Refute it at one input. -/
def systemsKnownWrong : ChangeSpec := { name := "systemsKnown", fn := fun _ => fun
  | [] => { results := [.lit (.bool false)], args := [] }
  | _ => none }
def SystemsKnownWrongFalsely : Prop := systemsKnownRow.holds Tryz.pinned (OpenSpec.ofChange systemsKnownWrong)

/- THE SECOND FORM. 'bulk': how many values and letters a reading holds, each counted each time it is reached (what is shared counts as often as it is met; a slice's spare places count too). A statement '..UptoSaid' is the law's where the arguments, and the package variables that the reading takes, are together of bulk at most 1048576: NARROWER than '..Said'. Prove '..Said' where nothing that the law and all that it calls make is longer than what came in: it says more and counts as full. Else prove '..UptoSaid'. A law counts once. -/
mutual
def uptoBulk {H : Type} : DataW H → Nat
  | .lit (.string bytes) => bytes.length + 1
  | .lit _ => 1
  | .nil => 1
  | .ptr d => uptoBulk d + 1
  | .slice elems spare => uptoBulkAll elems + uptoBulkAll spare + 1
  | .agg parts => uptoBulkAll parts + 1
  | .iface _ d => uptoBulk d + 1
  | .map entries => uptoBulkEntries entries + 1
  | .held _ => 1
def uptoBulkAll {H : Type} : List (DataW H) → Nat
  | [] => 0
  | d :: r => uptoBulk d + uptoBulkAll r
def uptoBulkEntries {H : Type} : List (Lit × DataW H) → Nat
  | [] => 0
  | x :: r => uptoBulkEntry x + uptoBulkEntries r
def uptoBulkEntry {H : Type} : Lit × DataW H → Nat
  | (.string bytes, d) => bytes.length + uptoBulk d + 1
  | (_, d) => uptoBulk d + 1
 end
def uptoSmall : (H : Type) → List (DataW H) → Bool := fun _ ds => decide (uptoBulkAll ds ≤ 1048576)
def OpenSpec.upto (s : _root_.Go.ChangeSpec) : _root_.Go.OpenSpec := { _root_.Go.OpenSpec.ofChange s with cond := some uptoSmall }

/-- 'gauntletlaw31.SystemsDeadlock', WHERE WHAT IT READS IS OF BULK AT MOST 1048576: true; the input reads as it did. -/
def systemsDeadlockUptoRow : OpenClaim := { program := "ytcldlioffanjaaagreatdoor", sum := "be36c2522650ae220737c2d294fdda4ed8690b1d821fda4f79d61590281db9c8", func := "gauntlet/gauntletlaw31.SystemsDeadlock", spec := "systemsDeadlock", inPlace := ["internal/reflectlite.TypeOf"], unfollowed := true, recurses := true, named := ["gauntlet/systems.errNo"], plainKeys := false, apart := false, laid := [("gauntlet/systems.errNo", laid_gauntlet_systems_errNo)], narrowed := true }
def SystemsDeadlockUptoSaid : Prop := systemsDeadlockUptoRow.holds Tryz.pinned (OpenSpec.upto systemsDeadlockSpec)

/-- 'gauntletlaw31.SystemsProduct', WHERE WHAT IT READS IS OF BULK AT MOST 1048576: true; the input reads as it did. -/
def systemsProductUptoRow : OpenClaim := { program := "ytcldlioffanjaaagreatdoor", sum := "be36c2522650ae220737c2d294fdda4ed8690b1d821fda4f79d61590281db9c8", func := "gauntlet/gauntletlaw31.SystemsProduct", spec := "systemsProduct", inPlace := ["internal/reflectlite.TypeOf"], unfollowed := true, recurses := true, named := ["gauntlet/systems.errNo"], plainKeys := false, apart := false, laid := [("gauntlet/systems.errNo", laid_gauntlet_systems_errNo)], narrowed := true }
def SystemsProductUptoSaid : Prop := systemsProductUptoRow.holds Tryz.pinned (OpenSpec.upto systemsProductSpec)

/-- 'gauntletlaw31.SystemsMoves', WHERE WHAT IT READS IS OF BULK AT MOST 1048576: true; the input reads as it did. -/
def systemsMovesUptoRow : OpenClaim := { program := "ytcldlioffanjaaagreatdoor", sum := "be36c2522650ae220737c2d294fdda4ed8690b1d821fda4f79d61590281db9c8", func := "gauntlet/gauntletlaw31.SystemsMoves", spec := "systemsMoves", inPlace := ["internal/reflectlite.TypeOf"], unfollowed := true, recurses := true, named := ["gauntlet/systems.errNo"], plainKeys := false, apart := false, laid := [("gauntlet/systems.errNo", laid_gauntlet_systems_errNo)], narrowed := true }
def SystemsMovesUptoSaid : Prop := systemsMovesUptoRow.holds Tryz.pinned (OpenSpec.upto systemsMovesSpec)

/-- 'gauntletlaw31.SystemsRoom', WHERE WHAT IT READS IS OF BULK AT MOST 1048576: true; the input reads as it did. -/
def systemsRoomUptoRow : OpenClaim := { program := "ytcldlioffanjaaagreatdoor", sum := "be36c2522650ae220737c2d294fdda4ed8690b1d821fda4f79d61590281db9c8", func := "gauntlet/gauntletlaw31.SystemsRoom", spec := "systemsRoom", inPlace := ["internal/reflectlite.TypeOf"], unfollowed := true, recurses := true, named := ["gauntlet/systems.errNo"], plainKeys := false, apart := false, laid := [("gauntlet/systems.errNo", laid_gauntlet_systems_errNo)], narrowed := true }
def SystemsRoomUptoSaid : Prop := systemsRoomUptoRow.holds Tryz.pinned (OpenSpec.upto systemsRoomSpec)

/-- 'gauntletlaw31.SystemsErrors', WHERE WHAT IT READS IS OF BULK AT MOST 1048576: true; the input reads as it did. -/
def systemsErrorsUptoRow : OpenClaim := { program := "ytcldlioffanjaaagreatdoor", sum := "be36c2522650ae220737c2d294fdda4ed8690b1d821fda4f79d61590281db9c8", func := "gauntlet/gauntletlaw31.SystemsErrors", spec := "systemsErrors", inPlace := ["internal/reflectlite.TypeOf"], unfollowed := true, recurses := true, named := ["gauntlet/systems.errNo"], plainKeys := false, apart := false, laid := [("gauntlet/systems.errNo", laid_gauntlet_systems_errNo)], narrowed := true }
def SystemsErrorsUptoSaid : Prop := systemsErrorsUptoRow.holds Tryz.pinned (OpenSpec.upto systemsErrorsSpec)

/-- 'gauntletlaw31.SystemsKnown', WHERE WHAT IT READS IS OF BULK AT MOST 1048576: true; the input reads as it did. -/
def systemsKnownUptoRow : OpenClaim := { program := "ytcldlioffanjaaagreatdoor", sum := "be36c2522650ae220737c2d294fdda4ed8690b1d821fda4f79d61590281db9c8", func := "gauntlet/gauntletlaw31.SystemsKnown", spec := "systemsKnown", inPlace := ["internal/reflectlite.TypeOf"], unfollowed := true, recurses := true, named := ["gauntlet/systems.errNo"], plainKeys := false, apart := false, laid := [("gauntlet/systems.errNo", laid_gauntlet_systems_errNo)], narrowed := true }
def SystemsKnownUptoSaid : Prop := systemsKnownUptoRow.holds Tryz.pinned (OpenSpec.upto systemsKnownSpec)

end Rows
end Go.Proofs.YtcldlioffanjaaaGreatDoor
