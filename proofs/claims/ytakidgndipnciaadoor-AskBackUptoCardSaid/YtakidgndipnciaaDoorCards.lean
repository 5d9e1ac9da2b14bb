/-
  DERIVED. GIVEN WITH THE SEED: THE CARDS: each row of YtakidgndipnciaaDoorRows.lean that lists a variable, with what it lists TIED to the program's text (the seventh form; the later family's looks); each row that meets fmt, with fmt's text TOLD by the authors' own Lean function (tested against real Go, not proved from fmt's source: count such statements apart). THE CARD IS WHAT COUNTS. Prove the row's statement (the work); the ties are given (YtakidgndipnciaaDoorTie.lean); close each card by the builder's one call (the guide's Derived/Test/ToyasCard.lean, 'card_holds'). Laid BY PROGRAM, IN A SANDBOX (cutbox-door.mjs). By AI agents, Wed Nov 11 2026. No macro, syntax, notation, axiom, sorry.
-/
import Derived.Test.YtakidgndipnciaaDoorRows
import GoSem.ClaimSeven
namespace Go.Proofs.YtakidgndipnciaaDoor
namespace Rows

/-- THE TIED CARD OF 'kinlaw4.AskShort'. -/
def askShortCard : Claim7 := { stood := { row := askShortRow, standIns := [], harness := (true, "30316104f2cd16c7af6a61aed7f50e2a4e2147866d055f0c7e3edd4f083a842c"), looks := true }, kinds := [], alts := [], laidByText := true, laidKinds := [.data, .data, .data, .data, .handle, .widerDeep, .pinned], laidTests := true, laidLooks := .later }
def AskShortCardSaid : Prop := Claim7.holds Tryd.pinned (.plain (OpenSpec.ofChange askShortSpec)) askShortCard

/-- THE TIED CARD OF 'kinlaw2.AskBack'. -/
def askBackCard : Claim7 := { stood := { row := askBackRow, standIns := [], harness := (true, "30316104f2cd16c7af6a61aed7f50e2a4e2147866d055f0c7e3edd4f083a842c"), looks := true }, kinds := [], alts := [], laidByText := true, laidKinds := [.data, .data, .data, .data, .sentinel, .sentinel, .widerDeep, .pinned], laidTests := true, laidLooks := .later }
def AskBackCardSaid : Prop := Claim7.holds Tryd.pinned (.plain (OpenSpec.ofChange askBackSpec)) askBackCard

/-- THE SECOND FORM's CARD OF 'kinlaw4.AskShort'. -/
def askShortUptoCard : Claim7 := { stood := { row := askShortUptoRow, standIns := [], harness := (true, "30316104f2cd16c7af6a61aed7f50e2a4e2147866d055f0c7e3edd4f083a842c"), looks := true }, kinds := [], alts := [], laidByText := true, laidKinds := [.data, .data, .data, .data, .handle, .widerDeep, .pinned], laidTests := true, laidLooks := .later }
def AskShortUptoCardSaid : Prop := Claim7.holds Tryd.pinned (.plain (OpenSpec.upto askShortSpec)) askShortUptoCard

/-- THE SECOND FORM's CARD OF 'kinlaw2.AskBack'. -/
def askBackUptoCard : Claim7 := { stood := { row := askBackUptoRow, standIns := [], harness := (true, "30316104f2cd16c7af6a61aed7f50e2a4e2147866d055f0c7e3edd4f083a842c"), looks := true }, kinds := [], alts := [], laidByText := true, laidKinds := [.data, .data, .data, .data, .sentinel, .sentinel, .widerDeep, .pinned], laidTests := true, laidLooks := .later }
def AskBackUptoCardSaid : Prop := Claim7.holds Tryd.pinned (.plain (OpenSpec.upto askBackSpec)) askBackUptoCard
end Rows
end Go.Proofs.YtakidgndipnciaaDoor
