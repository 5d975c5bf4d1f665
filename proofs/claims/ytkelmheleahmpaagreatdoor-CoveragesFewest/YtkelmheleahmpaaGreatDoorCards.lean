/-
  DERIVED. GIVEN WITH THE SEED: THE CARDS: each row of YtkelmheleahmpaaGreatDoorRows.lean that lists a variable, with what it lists TIED to the program's text (the seventh form; the later family's looks); each row that meets fmt, with fmt's text TOLD by the authors' own Lean function (tested against real Go, not proved from fmt's source: count such statements apart). THE CARD IS WHAT COUNTS. Prove the row's statement (the work); the ties are given (YtkelmheleahmpaaGreatDoorTie.lean); close each card by the builder's one call (the guide's Derived/Test/ToyasCard.lean, 'card_holds'). Laid BY PROGRAM, IN A SANDBOX (cutbox-door.mjs). By AI agents, Wed Nov 11 2026. No macro, syntax, notation, axiom, sorry.
-/
import Derived.Test.YtkelmheleahmpaaGreatDoorRows
import GoSem.ClaimSeven
namespace Go.Proofs.YtkelmheleahmpaaGreatDoor
namespace Rows

/-- THE TIED CARD OF 'gauntletlaw40.CoveragesOf'. -/
def coveragesOfCard : Claim7 := { stood := { row := coveragesOfRow, standIns := [], harness := (true, "a011b7cdf67d6ea9b3b85658e15c2d97abbd214391bbb37e485bdd7fc2c81f04"), looks := false }, kinds := [], alts := [], laidByText := true, laidKinds := [.data, .data, .data], laidTests := true, laidLooks := .later }
def CoveragesOfCardSaid : Prop := Claim7.holds Tryz.pinned (.plain (OpenSpec.ofChange coveragesOfSpec)) coveragesOfCard

/-- THE TIED CARD OF 'gauntletlaw40.CoveragesExtend'. -/
def coveragesExtendCard : Claim7 := { stood := { row := coveragesExtendRow, standIns := [], harness := (true, "a011b7cdf67d6ea9b3b85658e15c2d97abbd214391bbb37e485bdd7fc2c81f04"), looks := false }, kinds := [], alts := [], laidByText := true, laidKinds := [.data, .data, .data], laidTests := true, laidLooks := .later }
def CoveragesExtendCardSaid : Prop := Claim7.holds Tryz.pinned (.plain (OpenSpec.ofChange coveragesExtendSpec)) coveragesExtendCard

/-- THE TIED CARD OF 'gauntletlaw40.CoveragesFewest'. -/
def coveragesFewestCard : Claim7 := { stood := { row := coveragesFewestRow, standIns := [], harness := (true, "a011b7cdf67d6ea9b3b85658e15c2d97abbd214391bbb37e485bdd7fc2c81f04"), looks := false }, kinds := [], alts := [], laidByText := true, laidKinds := [.data, .data, .data], laidTests := true, laidLooks := .later }
def CoveragesFewestCardSaid : Prop := Claim7.holds Tryz.pinned (.plain (OpenSpec.ofChange coveragesFewestSpec)) coveragesFewestCard

/-- THE TIED CARD OF 'gauntletlaw40.CoveragesMissing'. -/
def coveragesMissingCard : Claim7 := { stood := { row := coveragesMissingRow, standIns := [], harness := (true, "a011b7cdf67d6ea9b3b85658e15c2d97abbd214391bbb37e485bdd7fc2c81f04"), looks := false }, kinds := [], alts := [], laidByText := true, laidKinds := [.data, .data, .data], laidTests := true, laidLooks := .later }
def CoveragesMissingCardSaid : Prop := Claim7.holds Tryz.pinned (.plain (OpenSpec.ofChange coveragesMissingSpec)) coveragesMissingCard

/-- THE SECOND FORM's CARD OF 'gauntletlaw40.CoveragesOf'. -/
def coveragesOfUptoCard : Claim7 := { stood := { row := coveragesOfUptoRow, standIns := [], harness := (true, "a011b7cdf67d6ea9b3b85658e15c2d97abbd214391bbb37e485bdd7fc2c81f04"), looks := false }, kinds := [], alts := [], laidByText := true, laidKinds := [.data, .data, .data], laidTests := true, laidLooks := .later }
def CoveragesOfUptoCardSaid : Prop := Claim7.holds Tryz.pinned (.plain (OpenSpec.upto coveragesOfSpec)) coveragesOfUptoCard

/-- THE SECOND FORM's CARD OF 'gauntletlaw40.CoveragesExtend'. -/
def coveragesExtendUptoCard : Claim7 := { stood := { row := coveragesExtendUptoRow, standIns := [], harness := (true, "a011b7cdf67d6ea9b3b85658e15c2d97abbd214391bbb37e485bdd7fc2c81f04"), looks := false }, kinds := [], alts := [], laidByText := true, laidKinds := [.data, .data, .data], laidTests := true, laidLooks := .later }
def CoveragesExtendUptoCardSaid : Prop := Claim7.holds Tryz.pinned (.plain (OpenSpec.upto coveragesExtendSpec)) coveragesExtendUptoCard

/-- THE SECOND FORM's CARD OF 'gauntletlaw40.CoveragesFewest'. -/
def coveragesFewestUptoCard : Claim7 := { stood := { row := coveragesFewestUptoRow, standIns := [], harness := (true, "a011b7cdf67d6ea9b3b85658e15c2d97abbd214391bbb37e485bdd7fc2c81f04"), looks := false }, kinds := [], alts := [], laidByText := true, laidKinds := [.data, .data, .data], laidTests := true, laidLooks := .later }
def CoveragesFewestUptoCardSaid : Prop := Claim7.holds Tryz.pinned (.plain (OpenSpec.upto coveragesFewestSpec)) coveragesFewestUptoCard

/-- THE SECOND FORM's CARD OF 'gauntletlaw40.CoveragesMissing'. -/
def coveragesMissingUptoCard : Claim7 := { stood := { row := coveragesMissingUptoRow, standIns := [], harness := (true, "a011b7cdf67d6ea9b3b85658e15c2d97abbd214391bbb37e485bdd7fc2c81f04"), looks := false }, kinds := [], alts := [], laidByText := true, laidKinds := [.data, .data, .data], laidTests := true, laidLooks := .later }
def CoveragesMissingUptoCardSaid : Prop := Claim7.holds Tryz.pinned (.plain (OpenSpec.upto coveragesMissingSpec)) coveragesMissingUptoCard
end Rows
end Go.Proofs.YtkelmheleahmpaaGreatDoor
