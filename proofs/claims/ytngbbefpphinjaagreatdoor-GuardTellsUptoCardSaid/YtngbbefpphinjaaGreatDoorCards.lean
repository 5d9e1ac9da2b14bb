/-
  DERIVED. GIVEN WITH THE SEED: THE CARDS: each row of YtngbbefpphinjaaGreatDoorRows.lean that lists a variable, with what it lists TIED to the program's text (the seventh form; the later family's looks); each row that meets fmt, with fmt's text TOLD by the authors' own Lean function (tested against real Go, not proved from fmt's source: count such statements apart). THE CARD IS WHAT COUNTS. Prove the row's statement (the work); the ties are given (YtngbbefpphinjaaGreatDoorTie.lean); close each card by the builder's one call (the guide's Derived/Test/ToyasCard.lean, 'card_holds'). Laid BY PROGRAM, IN A SANDBOX (cutbox-door.mjs). By AI agents, Wed Nov 11 2026. No macro, syntax, notation, axiom, sorry.
-/
import Derived.Test.YtngbbefpphinjaaGreatDoorRows
import GoSem.ClaimSeven
namespace Go.Proofs.YtngbbefpphinjaaGreatDoor
namespace Rows

/-- THE TIED CARD OF 'kinlaw1.DeltaTells'. -/
def deltaTellsCard : Claim7 := { stood := { row := deltaTellsRow, standIns := [], harness := (true, "b26e2324004f4db3e62567f8fefba35a385a1277e86a3940748b8e2e21a925ee"), looks := true }, kinds := [], alts := [], laidByText := true, laidKinds := [.handle], laidTests := true, laidLooks := .later }
def DeltaTellsCardSaid : Prop := Claim7.holds Tryz.pinned (.plain (OpenSpec.ofChange deltaTellsSpec)) deltaTellsCard

/-- THE TIED CARD OF 'kinlaw2.GuardTells'. -/
def guardTellsCard : Claim7 := { stood := { row := guardTellsRow, standIns := [], harness := (true, "b26e2324004f4db3e62567f8fefba35a385a1277e86a3940748b8e2e21a925ee"), looks := true }, kinds := [], alts := [], laidByText := true, laidKinds := [.handle], laidTests := true, laidLooks := .later }
def GuardTellsCardSaid : Prop := Claim7.holds Tryz.pinned (.plain (OpenSpec.ofChange guardTellsSpec)) guardTellsCard

/-- THE TIED CARD OF 'kinlaw2.ChangeTells'. -/
def changeTellsCard : Claim7 := { stood := { row := changeTellsRow, standIns := [], harness := (true, "b26e2324004f4db3e62567f8fefba35a385a1277e86a3940748b8e2e21a925ee"), looks := true }, kinds := [], alts := [], laidByText := true, laidKinds := [.handle], laidTests := true, laidLooks := .later }
def ChangeTellsCardSaid : Prop := Claim7.holds Tryz.pinned (.plain (OpenSpec.ofChange changeTellsSpec)) changeTellsCard

/-- THE TIED CARD OF 'kinlaw4.IndexKeys'. -/
def indexKeysCard : Claim7 := { stood := { row := indexKeysRow, standIns := [], harness := (true, "b26e2324004f4db3e62567f8fefba35a385a1277e86a3940748b8e2e21a925ee"), looks := true }, kinds := [], alts := [], laidByText := true, laidKinds := [.handle], laidTests := true, laidLooks := .later }
def IndexKeysCardSaid : Prop := Claim7.holds Tryz.pinned (.plain (OpenSpec.ofChange indexKeysSpec)) indexKeysCard

/-- THE SECOND FORM's CARD OF 'kinlaw1.DeltaTells'. -/
def deltaTellsUptoCard : Claim7 := { stood := { row := deltaTellsUptoRow, standIns := [], harness := (true, "b26e2324004f4db3e62567f8fefba35a385a1277e86a3940748b8e2e21a925ee"), looks := true }, kinds := [], alts := [], laidByText := true, laidKinds := [.handle], laidTests := true, laidLooks := .later }
def DeltaTellsUptoCardSaid : Prop := Claim7.holds Tryz.pinned (.plain (OpenSpec.upto deltaTellsSpec)) deltaTellsUptoCard

/-- THE SECOND FORM's CARD OF 'kinlaw2.GuardTells'. -/
def guardTellsUptoCard : Claim7 := { stood := { row := guardTellsUptoRow, standIns := [], harness := (true, "b26e2324004f4db3e62567f8fefba35a385a1277e86a3940748b8e2e21a925ee"), looks := true }, kinds := [], alts := [], laidByText := true, laidKinds := [.handle], laidTests := true, laidLooks := .later }
def GuardTellsUptoCardSaid : Prop := Claim7.holds Tryz.pinned (.plain (OpenSpec.upto guardTellsSpec)) guardTellsUptoCard

/-- THE SECOND FORM's CARD OF 'kinlaw2.ChangeTells'. -/
def changeTellsUptoCard : Claim7 := { stood := { row := changeTellsUptoRow, standIns := [], harness := (true, "b26e2324004f4db3e62567f8fefba35a385a1277e86a3940748b8e2e21a925ee"), looks := true }, kinds := [], alts := [], laidByText := true, laidKinds := [.handle], laidTests := true, laidLooks := .later }
def ChangeTellsUptoCardSaid : Prop := Claim7.holds Tryz.pinned (.plain (OpenSpec.upto changeTellsSpec)) changeTellsUptoCard

/-- THE SECOND FORM's CARD OF 'kinlaw4.IndexKeys'. -/
def indexKeysUptoCard : Claim7 := { stood := { row := indexKeysUptoRow, standIns := [], harness := (true, "b26e2324004f4db3e62567f8fefba35a385a1277e86a3940748b8e2e21a925ee"), looks := true }, kinds := [], alts := [], laidByText := true, laidKinds := [.handle], laidTests := true, laidLooks := .later }
def IndexKeysUptoCardSaid : Prop := Claim7.holds Tryz.pinned (.plain (OpenSpec.upto indexKeysSpec)) indexKeysUptoCard
end Rows
end Go.Proofs.YtngbbefpphinjaaGreatDoor
