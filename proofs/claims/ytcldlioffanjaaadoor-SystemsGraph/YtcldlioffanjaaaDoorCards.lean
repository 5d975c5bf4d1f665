/-
  DERIVED. GIVEN WITH THE SEED: THE CARDS: each row of YtcldlioffanjaaaDoorRows.lean that lists a variable, with what it lists TIED to the program's text (the seventh form; the later family's looks); each row that meets fmt, with fmt's text TOLD by the authors' own Lean function (tested against real Go, not proved from fmt's source: count such statements apart). THE CARD IS WHAT COUNTS. Prove the row's statement (the work); the ties are given (YtcldlioffanjaaaDoorTie.lean); close each card by the builder's one call (the guide's Derived/Test/ToyasCard.lean, 'card_holds'). Laid BY PROGRAM, IN A SANDBOX (cutbox-door.mjs). By AI agents, Wed Nov 11 2026. No macro, syntax, notation, axiom, sorry.
-/
import Derived.Test.YtcldlioffanjaaaDoorRows
import GoSem.ClaimSeven
namespace Go.Proofs.YtcldlioffanjaaaDoor
namespace Rows

/-- THE TIED CARD OF 'gauntletlaw31.SystemsGraph'. -/
def systemsGraphCard : Claim7 := { stood := { row := systemsGraphRow, standIns := [], harness := (true, "1e8170c8d948f79f1f0fc6f3c3d266bcef5e74b12dfeea5fb754913f3cac7e1d"), looks := true }, kinds := [], alts := [], laidByText := true, laidKinds := [.sentinel], laidTests := true, laidLooks := .later }
def SystemsGraphCardSaid : Prop := Claim7.holds Tryd.pinned (.plain (OpenSpec.ofChange systemsGraphSpec)) systemsGraphCard

/-- THE SECOND FORM's CARD OF 'gauntletlaw31.SystemsGraph'. -/
def systemsGraphUptoCard : Claim7 := { stood := { row := systemsGraphUptoRow, standIns := [], harness := (true, "1e8170c8d948f79f1f0fc6f3c3d266bcef5e74b12dfeea5fb754913f3cac7e1d"), looks := true }, kinds := [], alts := [], laidByText := true, laidKinds := [.sentinel], laidTests := true, laidLooks := .later }
def SystemsGraphUptoCardSaid : Prop := Claim7.holds Tryd.pinned (.plain (OpenSpec.upto systemsGraphSpec)) systemsGraphUptoCard
end Rows
end Go.Proofs.YtcldlioffanjaaaDoor
