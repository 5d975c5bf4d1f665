/-
  DERIVED. GIVEN WITH THE SEED: THE CARDS: each row of YtmedkleidpbgpaaGreatDoorRows.lean that lists a variable, with what it lists TIED to the program's text (the seventh form; the later family's looks); each row that meets fmt, with fmt's text TOLD by the authors' own Lean function (tested against real Go, not proved from fmt's source: count such statements apart). THE CARD IS WHAT COUNTS. Prove the row's statement (the work); the ties are given (YtmedkleidpbgpaaGreatDoorTie.lean); close each card by the builder's one call (the guide's Derived/Test/ToyasCard.lean, 'card_holds'). Laid BY PROGRAM, IN A SANDBOX (cutbox-door.mjs). By AI agents, Wed Nov 11 2026. No macro, syntax, notation, axiom, sorry.
-/
import Derived.Test.YtmedkleidpbgpaaGreatDoorRows
import GoSem.ClaimSeven
namespace Go.Proofs.YtmedkleidpbgpaaGreatDoor
namespace Rows

/-- THE TIED CARD OF 'gauntletlaw31.SystemsKnown'. -/
def systemsKnownCard : Claim7 := { stood := { row := systemsKnownRow, standIns := [], harness := (true, "f7fc03bc7c51dbab59c6b93db4496c6528037e826faee6798b8393701321ca10"), looks := true }, kinds := [], alts := [], laidByText := true, laidKinds := [.sentinel], laidTests := true, laidLooks := .later }
def SystemsKnownCardSaid : Prop := Claim7.holds Tryz.pinned (.plain (OpenSpec.ofChange systemsKnownSpec)) systemsKnownCard

/-- THE SECOND FORM's CARD OF 'gauntletlaw31.SystemsKnown'. -/
def systemsKnownUptoCard : Claim7 := { stood := { row := systemsKnownUptoRow, standIns := [], harness := (true, "f7fc03bc7c51dbab59c6b93db4496c6528037e826faee6798b8393701321ca10"), looks := true }, kinds := [], alts := [], laidByText := true, laidKinds := [.sentinel], laidTests := true, laidLooks := .later }
def SystemsKnownUptoCardSaid : Prop := Claim7.holds Tryz.pinned (.plain (OpenSpec.upto systemsKnownSpec)) systemsKnownUptoCard
end Rows
end Go.Proofs.YtmedkleidpbgpaaGreatDoor
