/-
  DERIVED. GIVEN WITH THE SEED: THE CARDS: each row of YtcodjgfoodacaaaGreatDoorRows.lean that lists a variable, with what it lists TIED to the program's text (the seventh form; the later family's looks); each row that meets fmt, with fmt's text TOLD by the authors' own Lean function (tested against real Go, not proved from fmt's source: count such statements apart). THE CARD IS WHAT COUNTS. Prove the row's statement (the work); the ties are given (YtcodjgfoodacaaaGreatDoorTie.lean); close each card by the builder's one call (the guide's Derived/Test/ToyasCard.lean, 'card_holds'). Laid BY PROGRAM, IN A SANDBOX (cutbox-door.mjs). By AI agents, Wed Nov 11 2026. No macro, syntax, notation, axiom, sorry.
-/
import Derived.Test.YtcodjgfoodacaaaGreatDoorRows
import GoSem.ClaimSeven
namespace Go.Proofs.YtcodjgfoodacaaaGreatDoor
namespace Rows

/-- THE TIED CARD OF 'gauntletlaw14.IdentsAll'. -/
def identsAllCard : Claim7 := { stood := { row := identsAllRow, standIns := [], harness := (true, "715c2141db8d2242eb7f34f812cc2666e7c04bdf1baf18ebf980598cb96d27b9"), looks := false }, kinds := [], alts := [], laidByText := true, laidKinds := [.data, .data], laidTests := true, laidLooks := .later }
def IdentsAllCardSaid : Prop := Claim7.holds Tryz.pinned (.plain (OpenSpec.ofChange identsAllSpec)) identsAllCard

/-- THE TIED CARD OF 'gauntletlaw14.IdentsFewest'. -/
def identsFewestCard : Claim7 := { stood := { row := identsFewestRow, standIns := [], harness := (true, "715c2141db8d2242eb7f34f812cc2666e7c04bdf1baf18ebf980598cb96d27b9"), looks := false }, kinds := [], alts := [], laidByText := true, laidKinds := [.data, .data], laidTests := true, laidLooks := .later }
def IdentsFewestCardSaid : Prop := Claim7.holds Tryz.pinned (.plain (OpenSpec.ofChange identsFewestSpec)) identsFewestCard

/-- THE TIED CARD OF 'gauntletlaw14.IdentsIdentify'. -/
def identsIdentifyCard : Claim7 := { stood := { row := identsIdentifyRow, standIns := [], harness := (true, "715c2141db8d2242eb7f34f812cc2666e7c04bdf1baf18ebf980598cb96d27b9"), looks := false }, kinds := [], alts := [], laidByText := true, laidKinds := [.data, .data], laidTests := true, laidLooks := .later }
def IdentsIdentifyCardSaid : Prop := Claim7.holds Tryz.pinned (.plain (OpenSpec.ofChange identsIdentifySpec)) identsIdentifyCard

/-- THE TIED CARD OF 'gauntletlaw14.IdentsAny'. -/
def identsAnyCard : Claim7 := { stood := { row := identsAnyRow, standIns := [], harness := (true, "715c2141db8d2242eb7f34f812cc2666e7c04bdf1baf18ebf980598cb96d27b9"), looks := false }, kinds := [], alts := [], laidByText := true, laidKinds := [.data, .data], laidTests := true, laidLooks := .later }
def IdentsAnyCardSaid : Prop := Claim7.holds Tryz.pinned (.plain (OpenSpec.ofChange identsAnySpec)) identsAnyCard

/-- THE TIED CARD OF 'gauntletlaw14.IdentsKnown'. -/
def identsKnownCard : Claim7 := { stood := { row := identsKnownRow, standIns := [], harness := (true, "715c2141db8d2242eb7f34f812cc2666e7c04bdf1baf18ebf980598cb96d27b9"), looks := false }, kinds := [], alts := [], laidByText := true, laidKinds := [.data, .data], laidTests := true, laidLooks := .later }
def IdentsKnownCardSaid : Prop := Claim7.holds Tryz.pinned (.plain (OpenSpec.ofChange identsKnownSpec)) identsKnownCard

/-- THE TIED CARD OF 'gauntletlaw14.IdentsSet'. -/
def identsSetCard : Claim7 := { stood := { row := identsSetRow, standIns := [], harness := (true, "715c2141db8d2242eb7f34f812cc2666e7c04bdf1baf18ebf980598cb96d27b9"), looks := false }, kinds := [], alts := [], laidByText := true, laidKinds := [.data, .data], laidTests := true, laidLooks := .later }
def IdentsSetCardSaid : Prop := Claim7.holds Tryz.pinned (.plain (OpenSpec.ofChange identsSetSpec)) identsSetCard

/-- THE SECOND FORM's CARD OF 'gauntletlaw14.IdentsAll'. -/
def identsAllUptoCard : Claim7 := { stood := { row := identsAllUptoRow, standIns := [], harness := (true, "715c2141db8d2242eb7f34f812cc2666e7c04bdf1baf18ebf980598cb96d27b9"), looks := false }, kinds := [], alts := [], laidByText := true, laidKinds := [.data, .data], laidTests := true, laidLooks := .later }
def IdentsAllUptoCardSaid : Prop := Claim7.holds Tryz.pinned (.plain (OpenSpec.upto identsAllSpec)) identsAllUptoCard

/-- THE SECOND FORM's CARD OF 'gauntletlaw14.IdentsFewest'. -/
def identsFewestUptoCard : Claim7 := { stood := { row := identsFewestUptoRow, standIns := [], harness := (true, "715c2141db8d2242eb7f34f812cc2666e7c04bdf1baf18ebf980598cb96d27b9"), looks := false }, kinds := [], alts := [], laidByText := true, laidKinds := [.data, .data], laidTests := true, laidLooks := .later }
def IdentsFewestUptoCardSaid : Prop := Claim7.holds Tryz.pinned (.plain (OpenSpec.upto identsFewestSpec)) identsFewestUptoCard

/-- THE SECOND FORM's CARD OF 'gauntletlaw14.IdentsIdentify'. -/
def identsIdentifyUptoCard : Claim7 := { stood := { row := identsIdentifyUptoRow, standIns := [], harness := (true, "715c2141db8d2242eb7f34f812cc2666e7c04bdf1baf18ebf980598cb96d27b9"), looks := false }, kinds := [], alts := [], laidByText := true, laidKinds := [.data, .data], laidTests := true, laidLooks := .later }
def IdentsIdentifyUptoCardSaid : Prop := Claim7.holds Tryz.pinned (.plain (OpenSpec.upto identsIdentifySpec)) identsIdentifyUptoCard

/-- THE SECOND FORM's CARD OF 'gauntletlaw14.IdentsAny'. -/
def identsAnyUptoCard : Claim7 := { stood := { row := identsAnyUptoRow, standIns := [], harness := (true, "715c2141db8d2242eb7f34f812cc2666e7c04bdf1baf18ebf980598cb96d27b9"), looks := false }, kinds := [], alts := [], laidByText := true, laidKinds := [.data, .data], laidTests := true, laidLooks := .later }
def IdentsAnyUptoCardSaid : Prop := Claim7.holds Tryz.pinned (.plain (OpenSpec.upto identsAnySpec)) identsAnyUptoCard

/-- THE SECOND FORM's CARD OF 'gauntletlaw14.IdentsKnown'. -/
def identsKnownUptoCard : Claim7 := { stood := { row := identsKnownUptoRow, standIns := [], harness := (true, "715c2141db8d2242eb7f34f812cc2666e7c04bdf1baf18ebf980598cb96d27b9"), looks := false }, kinds := [], alts := [], laidByText := true, laidKinds := [.data, .data], laidTests := true, laidLooks := .later }
def IdentsKnownUptoCardSaid : Prop := Claim7.holds Tryz.pinned (.plain (OpenSpec.upto identsKnownSpec)) identsKnownUptoCard

/-- THE SECOND FORM's CARD OF 'gauntletlaw14.IdentsSet'. -/
def identsSetUptoCard : Claim7 := { stood := { row := identsSetUptoRow, standIns := [], harness := (true, "715c2141db8d2242eb7f34f812cc2666e7c04bdf1baf18ebf980598cb96d27b9"), looks := false }, kinds := [], alts := [], laidByText := true, laidKinds := [.data, .data], laidTests := true, laidLooks := .later }
def IdentsSetUptoCardSaid : Prop := Claim7.holds Tryz.pinned (.plain (OpenSpec.upto identsSetSpec)) identsSetUptoCard
end Rows
end Go.Proofs.YtcodjgfoodacaaaGreatDoor
