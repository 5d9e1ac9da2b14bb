/-
  DERIVED. GIVEN WITH THE SEED: THE CARDS: each row of YtdfeloeainabjaaDoorRows.lean that lists a variable, with what it lists TIED to the program's text (the seventh form; the later family's looks); each row that meets fmt, with fmt's text TOLD by the authors' own Lean function (tested against real Go, not proved from fmt's source: count such statements apart). THE CARD IS WHAT COUNTS. Prove the row's statement (the work); the ties are given (YtdfeloeainabjaaDoorTie.lean); close each card by the builder's one call (the guide's Derived/Test/ToyasCard.lean, 'card_holds'). Laid BY PROGRAM, IN A SANDBOX (cutbox-door.mjs). By AI agents, Wed Nov 11 2026. No macro, syntax, notation, axiom, sorry.
-/
import Derived.Test.YtdfeloeainabjaaDoorRows
import GoSem.ClaimSeven
namespace Go.Proofs.YtdfeloeainabjaaDoor
namespace Rows

/-- THE TIED CARD OF 'kinlaw4.GraphFull'. -/
def graphFullCard : Claim7 := { stood := { row := graphFullRow, standIns := [], harness := (true, "2b15c49497908b91324deabae89669a2e117f515a4383c7db96180bbd620de6a"), looks := true }, kinds := [], alts := [], laidByText := true, laidKinds := [.handle], laidTests := true, laidLooks := .later }
def GraphFullCardSaid : Prop := Claim7.holds Tryd.pinned (.plain (OpenSpec.ofChange graphFullSpec)) graphFullCard

/-- THE TIED CARD OF 'kinlaw4.RecordMany'. -/
def recordManyCard : Claim7 := { stood := { row := recordManyRow, standIns := [], harness := (true, "2b15c49497908b91324deabae89669a2e117f515a4383c7db96180bbd620de6a"), looks := true }, kinds := [], alts := [], laidByText := true, laidKinds := [.handle], laidTests := true, laidLooks := .later }
def RecordManyCardSaid : Prop := Claim7.holds Tryd.pinned (.plain (OpenSpec.ofChange recordManySpec)) recordManyCard

/-- THE TIED CARD OF 'kinlaw4.RowsSum'. -/
def rowsSumCard : Claim7 := { stood := { row := rowsSumRow, standIns := [], harness := (true, "2b15c49497908b91324deabae89669a2e117f515a4383c7db96180bbd620de6a"), looks := true }, kinds := [], alts := [], laidByText := true, laidKinds := [.handle], laidTests := true, laidLooks := .later }
def RowsSumCardSaid : Prop := Claim7.holds Tryd.pinned (.plain (OpenSpec.ofChange rowsSumSpec)) rowsSumCard

/-- THE TIED CARD OF 'kinlaw4.KindLine'. -/
def kindLineCard : Claim7 := { stood := { row := kindLineRow, standIns := [], harness := (true, "2b15c49497908b91324deabae89669a2e117f515a4383c7db96180bbd620de6a"), looks := true }, kinds := [], alts := [], laidByText := true, laidKinds := [.handle], laidTests := true, laidLooks := .later }
def KindLineCardSaid : Prop := Claim7.holds Tryd.pinned (.plain (OpenSpec.ofChange kindLineSpec)) kindLineCard

/-- THE TIED CARD OF 'kinlaw1.KindTells'. -/
def kindTellsCard : Claim7 := { stood := { row := kindTellsRow, standIns := [], harness := (true, "2b15c49497908b91324deabae89669a2e117f515a4383c7db96180bbd620de6a"), looks := true }, kinds := [], alts := [], laidByText := true, laidKinds := [.handle], laidTests := true, laidLooks := .later }
def KindTellsCardSaid : Prop := Claim7.holds Tryd.pinned (.plain (OpenSpec.ofChange kindTellsSpec)) kindTellsCard

/-- THE SECOND FORM's CARD OF 'kinlaw4.GraphFull'. -/
def graphFullUptoCard : Claim7 := { stood := { row := graphFullUptoRow, standIns := [], harness := (true, "2b15c49497908b91324deabae89669a2e117f515a4383c7db96180bbd620de6a"), looks := true }, kinds := [], alts := [], laidByText := true, laidKinds := [.handle], laidTests := true, laidLooks := .later }
def GraphFullUptoCardSaid : Prop := Claim7.holds Tryd.pinned (.plain (OpenSpec.upto graphFullSpec)) graphFullUptoCard

/-- THE SECOND FORM's CARD OF 'kinlaw4.RecordMany'. -/
def recordManyUptoCard : Claim7 := { stood := { row := recordManyUptoRow, standIns := [], harness := (true, "2b15c49497908b91324deabae89669a2e117f515a4383c7db96180bbd620de6a"), looks := true }, kinds := [], alts := [], laidByText := true, laidKinds := [.handle], laidTests := true, laidLooks := .later }
def RecordManyUptoCardSaid : Prop := Claim7.holds Tryd.pinned (.plain (OpenSpec.upto recordManySpec)) recordManyUptoCard

/-- THE SECOND FORM's CARD OF 'kinlaw4.RowsSum'. -/
def rowsSumUptoCard : Claim7 := { stood := { row := rowsSumUptoRow, standIns := [], harness := (true, "2b15c49497908b91324deabae89669a2e117f515a4383c7db96180bbd620de6a"), looks := true }, kinds := [], alts := [], laidByText := true, laidKinds := [.handle], laidTests := true, laidLooks := .later }
def RowsSumUptoCardSaid : Prop := Claim7.holds Tryd.pinned (.plain (OpenSpec.upto rowsSumSpec)) rowsSumUptoCard

/-- THE SECOND FORM's CARD OF 'kinlaw4.KindLine'. -/
def kindLineUptoCard : Claim7 := { stood := { row := kindLineUptoRow, standIns := [], harness := (true, "2b15c49497908b91324deabae89669a2e117f515a4383c7db96180bbd620de6a"), looks := true }, kinds := [], alts := [], laidByText := true, laidKinds := [.handle], laidTests := true, laidLooks := .later }
def KindLineUptoCardSaid : Prop := Claim7.holds Tryd.pinned (.plain (OpenSpec.upto kindLineSpec)) kindLineUptoCard

/-- THE SECOND FORM's CARD OF 'kinlaw1.KindTells'. -/
def kindTellsUptoCard : Claim7 := { stood := { row := kindTellsUptoRow, standIns := [], harness := (true, "2b15c49497908b91324deabae89669a2e117f515a4383c7db96180bbd620de6a"), looks := true }, kinds := [], alts := [], laidByText := true, laidKinds := [.handle], laidTests := true, laidLooks := .later }
def KindTellsUptoCardSaid : Prop := Claim7.holds Tryd.pinned (.plain (OpenSpec.upto kindTellsSpec)) kindTellsUptoCard
end Rows
end Go.Proofs.YtdfeloeainabjaaDoor
