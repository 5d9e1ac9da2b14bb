/-
  DERIVED. GIVEN WITH THE SEED: THE CARDS: each row of YtfjnkidblalckaaGreatDoorRows.lean that lists a variable, with what it lists TIED to the program's text (the seventh form; the later family's looks); each row that meets fmt, with fmt's text TOLD by the authors' own Lean function (tested against real Go, not proved from fmt's source: count such statements apart). THE CARD IS WHAT COUNTS. Prove the row's statement (the work); the ties are given (YtfjnkidblalckaaGreatDoorTie.lean); close each card by the builder's one call (the guide's Derived/Test/ToyasCard.lean, 'card_holds'). Laid BY PROGRAM, IN A SANDBOX (cutbox-door.mjs). By AI agents, Wed Nov 11 2026. No macro, syntax, notation, axiom, sorry.
-/
import Derived.Test.YtfjnkidblalckaaGreatDoorRows
import GoSem.ClaimSeven
namespace Go.Proofs.YtfjnkidblalckaaGreatDoor
namespace Rows

/-- THE TIED CARD OF 'kinlaw3.StatTells'. -/
def statTellsCard : Claim7 := { stood := { row := statTellsRow, standIns := [], harness := (true, "fa4286086ea265626d90e3699c8c01faa557dacc10d927762bf90d2e1efd7fb9"), looks := true }, kinds := [], alts := [], laidByText := true, laidKinds := [.handle], laidTests := true, laidLooks := .later }
def StatTellsCardSaid : Prop := Claim7.holds Tryz.pinned (.plain (OpenSpec.ofChange statTellsSpec)) statTellsCard

/-- THE SECOND FORM's CARD OF 'kinlaw3.StatTells'. -/
def statTellsUptoCard : Claim7 := { stood := { row := statTellsUptoRow, standIns := [], harness := (true, "fa4286086ea265626d90e3699c8c01faa557dacc10d927762bf90d2e1efd7fb9"), looks := true }, kinds := [], alts := [], laidByText := true, laidKinds := [.handle], laidTests := true, laidLooks := .later }
def StatTellsUptoCardSaid : Prop := Claim7.holds Tryz.pinned (.plain (OpenSpec.upto statTellsSpec)) statTellsUptoCard
end Rows
end Go.Proofs.YtfjnkidblalckaaGreatDoor
