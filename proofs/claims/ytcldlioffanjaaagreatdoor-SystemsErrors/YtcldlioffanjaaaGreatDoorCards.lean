/-
  DERIVED. GIVEN WITH THE SEED: THE CARDS: each row of YtcldlioffanjaaaGreatDoorRows.lean that lists a variable, with what it lists TIED to the program's text (the seventh form; the later family's looks); each row that meets fmt, with fmt's text TOLD by the authors' own Lean function (tested against real Go, not proved from fmt's source: count such statements apart). THE CARD IS WHAT COUNTS. Prove the row's statement (the work); the ties are given (YtcldlioffanjaaaGreatDoorTie.lean); close each card by the builder's one call (the guide's Derived/Test/ToyasCard.lean, 'card_holds'). Laid BY PROGRAM, IN A SANDBOX (cutbox-door.mjs). By AI agents, Wed Nov 11 2026. No macro, syntax, notation, axiom, sorry.
-/
import Derived.Test.YtcldlioffanjaaaGreatDoorRows
import GoSem.ClaimSeven
namespace Go.Proofs.YtcldlioffanjaaaGreatDoor
namespace Rows

/-- THE TIED CARD OF 'gauntletlaw31.SystemsDeadlock'. -/
def systemsDeadlockCard : Claim7 := { stood := { row := systemsDeadlockRow, standIns := [], harness := (true, "7a337c67efc784e1f6936414ec661573001676227fe3319059bdf7cee06bd026"), looks := true }, kinds := [], alts := [], laidByText := true, laidKinds := [.sentinel], laidTests := true, laidLooks := .later }
def SystemsDeadlockCardSaid : Prop := Claim7.holds Tryz.pinned (.plain (OpenSpec.ofChange systemsDeadlockSpec)) systemsDeadlockCard

/-- THE TIED CARD OF 'gauntletlaw31.SystemsProduct'. -/
def systemsProductCard : Claim7 := { stood := { row := systemsProductRow, standIns := [], harness := (true, "7a337c67efc784e1f6936414ec661573001676227fe3319059bdf7cee06bd026"), looks := true }, kinds := [], alts := [], laidByText := true, laidKinds := [.sentinel], laidTests := true, laidLooks := .later }
def SystemsProductCardSaid : Prop := Claim7.holds Tryz.pinned (.plain (OpenSpec.ofChange systemsProductSpec)) systemsProductCard

/-- THE TIED CARD OF 'gauntletlaw31.SystemsMoves'. -/
def systemsMovesCard : Claim7 := { stood := { row := systemsMovesRow, standIns := [], harness := (true, "7a337c67efc784e1f6936414ec661573001676227fe3319059bdf7cee06bd026"), looks := true }, kinds := [], alts := [], laidByText := true, laidKinds := [.sentinel], laidTests := true, laidLooks := .later }
def SystemsMovesCardSaid : Prop := Claim7.holds Tryz.pinned (.plain (OpenSpec.ofChange systemsMovesSpec)) systemsMovesCard

/-- THE TIED CARD OF 'gauntletlaw31.SystemsRoom'. -/
def systemsRoomCard : Claim7 := { stood := { row := systemsRoomRow, standIns := [], harness := (true, "7a337c67efc784e1f6936414ec661573001676227fe3319059bdf7cee06bd026"), looks := true }, kinds := [], alts := [], laidByText := true, laidKinds := [.sentinel], laidTests := true, laidLooks := .later }
def SystemsRoomCardSaid : Prop := Claim7.holds Tryz.pinned (.plain (OpenSpec.ofChange systemsRoomSpec)) systemsRoomCard

/-- THE TIED CARD OF 'gauntletlaw31.SystemsErrors'. -/
def systemsErrorsCard : Claim7 := { stood := { row := systemsErrorsRow, standIns := [], harness := (true, "7a337c67efc784e1f6936414ec661573001676227fe3319059bdf7cee06bd026"), looks := true }, kinds := [], alts := [], laidByText := true, laidKinds := [.sentinel], laidTests := true, laidLooks := .later }
def SystemsErrorsCardSaid : Prop := Claim7.holds Tryz.pinned (.plain (OpenSpec.ofChange systemsErrorsSpec)) systemsErrorsCard

/-- THE TIED CARD OF 'gauntletlaw31.SystemsKnown'. -/
def systemsKnownCard : Claim7 := { stood := { row := systemsKnownRow, standIns := [], harness := (true, "7a337c67efc784e1f6936414ec661573001676227fe3319059bdf7cee06bd026"), looks := true }, kinds := [], alts := [], laidByText := true, laidKinds := [.sentinel], laidTests := true, laidLooks := .later }
def SystemsKnownCardSaid : Prop := Claim7.holds Tryz.pinned (.plain (OpenSpec.ofChange systemsKnownSpec)) systemsKnownCard

/-- THE SECOND FORM's CARD OF 'gauntletlaw31.SystemsDeadlock'. -/
def systemsDeadlockUptoCard : Claim7 := { stood := { row := systemsDeadlockUptoRow, standIns := [], harness := (true, "7a337c67efc784e1f6936414ec661573001676227fe3319059bdf7cee06bd026"), looks := true }, kinds := [], alts := [], laidByText := true, laidKinds := [.sentinel], laidTests := true, laidLooks := .later }
def SystemsDeadlockUptoCardSaid : Prop := Claim7.holds Tryz.pinned (.plain (OpenSpec.upto systemsDeadlockSpec)) systemsDeadlockUptoCard

/-- THE SECOND FORM's CARD OF 'gauntletlaw31.SystemsProduct'. -/
def systemsProductUptoCard : Claim7 := { stood := { row := systemsProductUptoRow, standIns := [], harness := (true, "7a337c67efc784e1f6936414ec661573001676227fe3319059bdf7cee06bd026"), looks := true }, kinds := [], alts := [], laidByText := true, laidKinds := [.sentinel], laidTests := true, laidLooks := .later }
def SystemsProductUptoCardSaid : Prop := Claim7.holds Tryz.pinned (.plain (OpenSpec.upto systemsProductSpec)) systemsProductUptoCard

/-- THE SECOND FORM's CARD OF 'gauntletlaw31.SystemsMoves'. -/
def systemsMovesUptoCard : Claim7 := { stood := { row := systemsMovesUptoRow, standIns := [], harness := (true, "7a337c67efc784e1f6936414ec661573001676227fe3319059bdf7cee06bd026"), looks := true }, kinds := [], alts := [], laidByText := true, laidKinds := [.sentinel], laidTests := true, laidLooks := .later }
def SystemsMovesUptoCardSaid : Prop := Claim7.holds Tryz.pinned (.plain (OpenSpec.upto systemsMovesSpec)) systemsMovesUptoCard

/-- THE SECOND FORM's CARD OF 'gauntletlaw31.SystemsRoom'. -/
def systemsRoomUptoCard : Claim7 := { stood := { row := systemsRoomUptoRow, standIns := [], harness := (true, "7a337c67efc784e1f6936414ec661573001676227fe3319059bdf7cee06bd026"), looks := true }, kinds := [], alts := [], laidByText := true, laidKinds := [.sentinel], laidTests := true, laidLooks := .later }
def SystemsRoomUptoCardSaid : Prop := Claim7.holds Tryz.pinned (.plain (OpenSpec.upto systemsRoomSpec)) systemsRoomUptoCard

/-- THE SECOND FORM's CARD OF 'gauntletlaw31.SystemsErrors'. -/
def systemsErrorsUptoCard : Claim7 := { stood := { row := systemsErrorsUptoRow, standIns := [], harness := (true, "7a337c67efc784e1f6936414ec661573001676227fe3319059bdf7cee06bd026"), looks := true }, kinds := [], alts := [], laidByText := true, laidKinds := [.sentinel], laidTests := true, laidLooks := .later }
def SystemsErrorsUptoCardSaid : Prop := Claim7.holds Tryz.pinned (.plain (OpenSpec.upto systemsErrorsSpec)) systemsErrorsUptoCard

/-- THE SECOND FORM's CARD OF 'gauntletlaw31.SystemsKnown'. -/
def systemsKnownUptoCard : Claim7 := { stood := { row := systemsKnownUptoRow, standIns := [], harness := (true, "7a337c67efc784e1f6936414ec661573001676227fe3319059bdf7cee06bd026"), looks := true }, kinds := [], alts := [], laidByText := true, laidKinds := [.sentinel], laidTests := true, laidLooks := .later }
def SystemsKnownUptoCardSaid : Prop := Claim7.holds Tryz.pinned (.plain (OpenSpec.upto systemsKnownSpec)) systemsKnownUptoCard
end Rows
end Go.Proofs.YtcldlioffanjaaaGreatDoor
