/-
  DERIVED. GIVEN WITH THE SEED: THE CARDS: each row of YtkelmheleahmpaaDoorRows.lean that lists a variable, with what it lists TIED to the program's text (the seventh form; the later family's looks); each row that meets fmt, with fmt's text TOLD by the authors' own Lean function (tested against real Go, not proved from fmt's source: count such statements apart). THE CARD IS WHAT COUNTS. Prove the row's statement (the work); the ties are given (YtkelmheleahmpaaDoorTie.lean); close each card by the builder's one call (the guide's Derived/Test/ToyasCard.lean, 'card_holds'). Laid BY PROGRAM, IN A SANDBOX (cutbox-door.mjs). By AI agents, Wed Nov 11 2026. No macro, syntax, notation, axiom, sorry.
-/
import Derived.Test.YtkelmheleahmpaaDoorRows
import GoSem.ClaimSeven
namespace Go.Proofs.YtkelmheleahmpaaDoor
namespace Rows

/-- THE TIED CARD OF 'gauntletlaw40.CoveragesPart'. -/
def coveragesPartCard : Claim7 := { stood := { row := coveragesPartRow, standIns := [], harness := (true, "fd240e39abc7d9650345d5363485ca95c3f953fda4858117605acc718f919ae9"), looks := false }, kinds := [], alts := [], laidByText := true, laidKinds := [.data, .data, .data], laidTests := true, laidLooks := .later }
def CoveragesPartCardSaid : Prop := Claim7.holds Tryd.pinned (.plain (OpenSpec.ofChange coveragesPartSpec)) coveragesPartCard

/-- THE TIED CARD OF 'gauntletlaw40.CoveragesKnown'. -/
def coveragesKnownCard : Claim7 := { stood := { row := coveragesKnownRow, standIns := [], harness := (true, "fd240e39abc7d9650345d5363485ca95c3f953fda4858117605acc718f919ae9"), looks := false }, kinds := [], alts := [], laidByText := true, laidKinds := [.data, .data, .data], laidTests := true, laidLooks := .later }
def CoveragesKnownCardSaid : Prop := Claim7.holds Tryd.pinned (.plain (OpenSpec.ofChange coveragesKnownSpec)) coveragesKnownCard

/-- THE TIED CARD OF 'gauntletlaw40.CoveragesErrors'. -/
def coveragesErrorsCard : Claim7 := { stood := { row := coveragesErrorsRow, standIns := [], harness := (true, "fd240e39abc7d9650345d5363485ca95c3f953fda4858117605acc718f919ae9"), looks := false }, kinds := [], alts := [], laidByText := true, laidKinds := [.data, .data, .data], laidTests := true, laidLooks := .later }
def CoveragesErrorsCardSaid : Prop := Claim7.holds Tryd.pinned (.plain (OpenSpec.ofChange coveragesErrorsSpec)) coveragesErrorsCard

/-- THE SECOND FORM's CARD OF 'gauntletlaw40.CoveragesPart'. -/
def coveragesPartUptoCard : Claim7 := { stood := { row := coveragesPartUptoRow, standIns := [], harness := (true, "fd240e39abc7d9650345d5363485ca95c3f953fda4858117605acc718f919ae9"), looks := false }, kinds := [], alts := [], laidByText := true, laidKinds := [.data, .data, .data], laidTests := true, laidLooks := .later }
def CoveragesPartUptoCardSaid : Prop := Claim7.holds Tryd.pinned (.plain (OpenSpec.upto coveragesPartSpec)) coveragesPartUptoCard

/-- THE SECOND FORM's CARD OF 'gauntletlaw40.CoveragesKnown'. -/
def coveragesKnownUptoCard : Claim7 := { stood := { row := coveragesKnownUptoRow, standIns := [], harness := (true, "fd240e39abc7d9650345d5363485ca95c3f953fda4858117605acc718f919ae9"), looks := false }, kinds := [], alts := [], laidByText := true, laidKinds := [.data, .data, .data], laidTests := true, laidLooks := .later }
def CoveragesKnownUptoCardSaid : Prop := Claim7.holds Tryd.pinned (.plain (OpenSpec.upto coveragesKnownSpec)) coveragesKnownUptoCard

/-- THE SECOND FORM's CARD OF 'gauntletlaw40.CoveragesErrors'. -/
def coveragesErrorsUptoCard : Claim7 := { stood := { row := coveragesErrorsUptoRow, standIns := [], harness := (true, "fd240e39abc7d9650345d5363485ca95c3f953fda4858117605acc718f919ae9"), looks := false }, kinds := [], alts := [], laidByText := true, laidKinds := [.data, .data, .data], laidTests := true, laidLooks := .later }
def CoveragesErrorsUptoCardSaid : Prop := Claim7.holds Tryd.pinned (.plain (OpenSpec.upto coveragesErrorsSpec)) coveragesErrorsUptoCard
end Rows
end Go.Proofs.YtkelmheleahmpaaDoor
