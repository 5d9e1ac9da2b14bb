/-
  No cell of these rows narrows 'for every input' (looked for: loops, veiled, ifaces, maps, wideKeys, modest, calm, conditions, laid).
  DERIVED. THE GIVEN ROWS OF THIS SEAT. 7 by the template 'for every input the law returns true; each argument reads behind the call as it read before'; 0 by the template 'total and deterministic' (their statements: YtdfeloeainabjaaTotals.lean).
  GIVEN WITH THE SEED: the statements are not yours to turn. If you find one false, say at which input.
  Laid BY PROGRAM, IN A SANDBOX (cutbox-rows.mjs): the forced cells as the released guide's own fill.sh prints them over the translation 9607e92ac3a078ce… (all of the seat's roots in one cut). By AI agents, Wed Nov 11 2026. No macro, syntax, notation, axiom, sorry.
-/
import Derived.Test.YtdfeloeainabjaaChecked
import GoSem.Claim
import GoSem.ClaimJoined
import GoSem.ClaimMapViews
import Derived.JoinedTies
import Derived.KernelRfl
namespace Go.Proofs.Ytdfeloeainabjaa
/- THE CELL 'sum', in the pinned program and in every row, IS THE sha256 OF THE DUMP (.gsa) THAT YtdfeloeainabjaaProg.lean LOADS. Nothing in Lean hashes anything: it is a label: what it is worth is what the hold of that sum in a sandbox is worth. -/
noncomputable def Try.pinned : Pinned := { name := "ytdfeloeainabjaa", sum := "9607e92ac3a078cef17e8f30b764a4ecd68c6f86c3aae815dc500a06b92e8fc5", checked := Try.checked }
namespace Rows
def none {H : Type} : Left H := { results := [], args := [] }

/-- 'kinlaw1.Names': WHATEVER THE INPUT: true; the input reads as it did. -/
def namesSpec : ChangeSpec := { name := "names", fn := fun _ => fun
  | [] => { results := [.lit (.bool true)], args := [] }
  | _ => none }
def namesRow : OpenClaim := { program := "ytdfeloeainabjaa", sum := "9607e92ac3a078cef17e8f30b764a4ecd68c6f86c3aae815dc500a06b92e8fc5", func := "kinshape/kinlaw1.Names", spec := "names", plainKeys := false, apart := false }
def NamesSaid : Prop := namesRow.holds Try.pinned (OpenSpec.ofChange namesSpec)

/-- ITS FALSE NEIGHBOUR: 'it returns false'. Refute it at one input. -/
def namesWrong : ChangeSpec := { name := "names", fn := fun _ => fun
  | [] => { results := [.lit (.bool false)], args := [] }
  | _ => none }
def NamesWrongFalsely : Prop := namesRow.holds Try.pinned (OpenSpec.ofChange namesWrong)

/-- 'kinlaw3.StatHolds': WHATEVER THE INPUT: true; the input reads as it did. -/
def statHoldsSpec : ChangeSpec := { name := "statHolds", fn := fun _ => fun
  | [d] => { results := [.lit (.bool true)], args := [d] }
  | _ => none }
def statHoldsRow : OpenClaim := { program := "ytdfeloeainabjaa", sum := "9607e92ac3a078cef17e8f30b764a4ecd68c6f86c3aae815dc500a06b92e8fc5", func := "kinshape/kinlaw3.StatHolds", spec := "statHolds", inPlace := ["internal/bytealg.abigen_runtime_cmpstring"], unfollowed := true, recurses := true, plainKeys := false, apart := false }
def StatHoldsSaid : Prop := statHoldsRow.holds Try.pinned (OpenSpec.ofChange statHoldsSpec)

/-- ITS FALSE NEIGHBOUR: 'it returns false'. Refute it at one input. -/
def statHoldsWrong : ChangeSpec := { name := "statHolds", fn := fun _ => fun
  | [d] => { results := [.lit (.bool false)], args := [d] }
  | _ => none }
def StatHoldsWrongFalsely : Prop := statHoldsRow.holds Try.pinned (OpenSpec.ofChange statHoldsWrong)

/-- 'kinlaw1.KindHolds': WHATEVER THE INPUT: true; the input reads as it did. -/
def kindHoldsSpec : ChangeSpec := { name := "kindHolds", fn := fun _ => fun
  | [d1, d2, d3, d4] => { results := [.lit (.bool true)], args := [d1, d2, d3, d4] }
  | _ => none }
def kindHoldsRow : OpenClaim := { program := "ytdfeloeainabjaa", sum := "9607e92ac3a078cef17e8f30b764a4ecd68c6f86c3aae815dc500a06b92e8fc5", func := "kinshape/kinlaw1.KindHolds", spec := "kindHolds", inPlace := ["internal/bytealg.abigen_runtime_cmpstring", "slices.overlaps[kinshape/api.Field]"], unfollowed := true, recurses := true, plainKeys := false, apart := false }
def KindHoldsSaid : Prop := kindHoldsRow.holds Try.pinned (OpenSpec.ofChange kindHoldsSpec)

/-- ITS FALSE NEIGHBOUR: 'it returns false'. Refute it at one input. -/
def kindHoldsWrong : ChangeSpec := { name := "kindHolds", fn := fun _ => fun
  | [d1, d2, d3, d4] => { results := [.lit (.bool false)], args := [d1, d2, d3, d4] }
  | _ => none }
def KindHoldsWrongFalsely : Prop := kindHoldsRow.holds Try.pinned (OpenSpec.ofChange kindHoldsWrong)

/-- 'kinlaw4.DeltaEmpties': WHATEVER THE INPUT: true; the input reads as it did. -/
def deltaEmptiesSpec : ChangeSpec := { name := "deltaEmpties", fn := fun _ => fun
  | [d] => { results := [.lit (.bool true)], args := [d] }
  | _ => none }
def deltaEmptiesRow : OpenClaim := { program := "ytdfeloeainabjaa", sum := "9607e92ac3a078cef17e8f30b764a4ecd68c6f86c3aae815dc500a06b92e8fc5", func := "kinshape/kinlaw4.DeltaEmpties", spec := "deltaEmpties", inPlace := ["internal/bytealg.abigen_runtime_cmpstring", "slices.overlaps[kinshape/api.Node]", "slices.overlaps[kinshape/api.Prop]", "slices.overlaps[kinshape/api.Tie]"], unfollowed := true, recurses := true, plainKeys := false, apart := false }
def DeltaEmptiesSaid : Prop := deltaEmptiesRow.holds Try.pinned (OpenSpec.ofChange deltaEmptiesSpec)

/-- ITS FALSE NEIGHBOUR: 'it returns false'. Refute it at one input. -/
def deltaEmptiesWrong : ChangeSpec := { name := "deltaEmpties", fn := fun _ => fun
  | [d] => { results := [.lit (.bool false)], args := [d] }
  | _ => none }
def DeltaEmptiesWrongFalsely : Prop := deltaEmptiesRow.holds Try.pinned (OpenSpec.ofChange deltaEmptiesWrong)

/-- 'kinlaw2.ChangeBack': WHATEVER THE INPUT: true; the input reads as it did. -/
def changeBackSpec : ChangeSpec := { name := "changeBack", fn := fun _ => fun
  | [d1, d2] => { results := [.lit (.bool true)], args := [d1, d2] }
  | _ => none }
def changeBackRow : OpenClaim := { program := "ytdfeloeainabjaa", sum := "9607e92ac3a078cef17e8f30b764a4ecd68c6f86c3aae815dc500a06b92e8fc5", func := "kinshape/kinlaw2.ChangeBack", spec := "changeBack", inPlace := ["internal/bytealg.abigen_runtime_cmpstring", "slices.overlaps[kinshape/api.Field]"], unfollowed := true, recurses := true, plainKeys := false, apart := false }
def ChangeBackSaid : Prop := changeBackRow.holds Try.pinned (OpenSpec.ofChange changeBackSpec)

/-- ITS FALSE NEIGHBOUR: 'it returns false'. Refute it at one input. -/
def changeBackWrong : ChangeSpec := { name := "changeBack", fn := fun _ => fun
  | [d1, d2] => { results := [.lit (.bool false)], args := [d1, d2] }
  | _ => none }
def ChangeBackWrongFalsely : Prop := changeBackRow.holds Try.pinned (OpenSpec.ofChange changeBackWrong)

/-- 'kinlaw4.StatRow': WHATEVER THE INPUT: true; the input reads as it did. -/
def statRowSpec : ChangeSpec := { name := "statRow", fn := fun _ => fun
  | [d1, d2, d3] => { results := [.lit (.bool true)], args := [d1, d2, d3] }
  | _ => none }
def statRowRow : OpenClaim := { program := "ytdfeloeainabjaa", sum := "9607e92ac3a078cef17e8f30b764a4ecd68c6f86c3aae815dc500a06b92e8fc5", func := "kinshape/kinlaw4.StatRow", spec := "statRow", inPlace := ["internal/bytealg.abigen_runtime_cmpstring", "slices.overlaps[kinshape/api.Node]", "slices.overlaps[kinshape/api.Prop]", "slices.overlaps[kinshape/api.Tie]"], unfollowed := true, recurses := true, plainKeys := false, apart := false }
def StatRowSaid : Prop := statRowRow.holds Try.pinned (OpenSpec.ofChange statRowSpec)

/-- ITS FALSE NEIGHBOUR: 'it returns false'. Refute it at one input. -/
def statRowWrong : ChangeSpec := { name := "statRow", fn := fun _ => fun
  | [d1, d2, d3] => { results := [.lit (.bool false)], args := [d1, d2, d3] }
  | _ => none }
def StatRowWrongFalsely : Prop := statRowRow.holds Try.pinned (OpenSpec.ofChange statRowWrong)

/-- 'kinlaw2.RowsHold': WHATEVER THE INPUT: true; the input reads as it did. -/
def rowsHoldSpec : ChangeSpec := { name := "rowsHold", fn := fun _ => fun
  | [d1, d2, d3] => { results := [.lit (.bool true)], args := [d1, d2, d3] }
  | _ => none }
def rowsHoldRow : OpenClaim := { program := "ytdfeloeainabjaa", sum := "9607e92ac3a078cef17e8f30b764a4ecd68c6f86c3aae815dc500a06b92e8fc5", func := "kinshape/kinlaw2.RowsHold", spec := "rowsHold", inPlace := ["internal/bytealg.abigen_runtime_cmpstring", "slices.overlaps[kinshape/api.Prop]"], unfollowed := true, recurses := true, plainKeys := false, apart := false }
def RowsHoldSaid : Prop := rowsHoldRow.holds Try.pinned (OpenSpec.ofChange rowsHoldSpec)

/-- ITS FALSE NEIGHBOUR: 'it returns false'. Refute it at one input. -/
def rowsHoldWrong : ChangeSpec := { name := "rowsHold", fn := fun _ => fun
  | [d1, d2, d3] => { results := [.lit (.bool false)], args := [d1, d2, d3] }
  | _ => none }
def RowsHoldWrongFalsely : Prop := rowsHoldRow.holds Try.pinned (OpenSpec.ofChange rowsHoldWrong)

/- THE SECOND FORM. 'bulk': how many values and letters a reading holds, each counted each time it is reached (what is shared counts as often as it is met; a slice's spare places count too). A statement '..UptoSaid' is the law's where the arguments, and the package variables that the reading takes, are together of bulk at most 1048576: NARROWER than '..Said'. Prove '..Said' where nothing that the law and all that it calls make is longer than what came in: it says more and counts as full. Else prove '..UptoSaid'. A law counts once. -/
mutual
def uptoBulk {H : Type} : DataW H → Nat
  | .lit (.string bytes) => bytes.length + 1
  | .lit _ => 1
  | .nil => 1
  | .ptr d => uptoBulk d + 1
  | .slice elems spare => uptoBulkAll elems + uptoBulkAll spare + 1
  | .agg parts => uptoBulkAll parts + 1
  | .iface _ d => uptoBulk d + 1
  | .map entries => uptoBulkEntries entries + 1
  | .held _ => 1
def uptoBulkAll {H : Type} : List (DataW H) → Nat
  | [] => 0
  | d :: r => uptoBulk d + uptoBulkAll r
def uptoBulkEntries {H : Type} : List (Lit × DataW H) → Nat
  | [] => 0
  | x :: r => uptoBulkEntry x + uptoBulkEntries r
def uptoBulkEntry {H : Type} : Lit × DataW H → Nat
  | (.string bytes, d) => bytes.length + uptoBulk d + 1
  | (_, d) => uptoBulk d + 1
 end
def uptoSmall : (H : Type) → List (DataW H) → Bool := fun _ ds => decide (uptoBulkAll ds ≤ 1048576)
def OpenSpec.upto (s : _root_.Go.ChangeSpec) : _root_.Go.OpenSpec := { _root_.Go.OpenSpec.ofChange s with cond := some uptoSmall }

/-- 'kinlaw1.Names', WHERE WHAT IT READS IS OF BULK AT MOST 1048576: true; the input reads as it did. -/
def namesUptoRow : OpenClaim := { program := "ytdfeloeainabjaa", sum := "9607e92ac3a078cef17e8f30b764a4ecd68c6f86c3aae815dc500a06b92e8fc5", func := "kinshape/kinlaw1.Names", spec := "names", plainKeys := false, apart := false, narrowed := true }
def NamesUptoSaid : Prop := namesUptoRow.holds Try.pinned (OpenSpec.upto namesSpec)

/-- 'kinlaw3.StatHolds', WHERE WHAT IT READS IS OF BULK AT MOST 1048576: true; the input reads as it did. -/
def statHoldsUptoRow : OpenClaim := { program := "ytdfeloeainabjaa", sum := "9607e92ac3a078cef17e8f30b764a4ecd68c6f86c3aae815dc500a06b92e8fc5", func := "kinshape/kinlaw3.StatHolds", spec := "statHolds", inPlace := ["internal/bytealg.abigen_runtime_cmpstring"], unfollowed := true, recurses := true, plainKeys := false, apart := false, narrowed := true }
def StatHoldsUptoSaid : Prop := statHoldsUptoRow.holds Try.pinned (OpenSpec.upto statHoldsSpec)

/-- 'kinlaw1.KindHolds', WHERE WHAT IT READS IS OF BULK AT MOST 1048576: true; the input reads as it did. -/
def kindHoldsUptoRow : OpenClaim := { program := "ytdfeloeainabjaa", sum := "9607e92ac3a078cef17e8f30b764a4ecd68c6f86c3aae815dc500a06b92e8fc5", func := "kinshape/kinlaw1.KindHolds", spec := "kindHolds", inPlace := ["internal/bytealg.abigen_runtime_cmpstring", "slices.overlaps[kinshape/api.Field]"], unfollowed := true, recurses := true, plainKeys := false, apart := false, narrowed := true }
def KindHoldsUptoSaid : Prop := kindHoldsUptoRow.holds Try.pinned (OpenSpec.upto kindHoldsSpec)

/-- 'kinlaw4.DeltaEmpties', WHERE WHAT IT READS IS OF BULK AT MOST 1048576: true; the input reads as it did. -/
def deltaEmptiesUptoRow : OpenClaim := { program := "ytdfeloeainabjaa", sum := "9607e92ac3a078cef17e8f30b764a4ecd68c6f86c3aae815dc500a06b92e8fc5", func := "kinshape/kinlaw4.DeltaEmpties", spec := "deltaEmpties", inPlace := ["internal/bytealg.abigen_runtime_cmpstring", "slices.overlaps[kinshape/api.Node]", "slices.overlaps[kinshape/api.Prop]", "slices.overlaps[kinshape/api.Tie]"], unfollowed := true, recurses := true, plainKeys := false, apart := false, narrowed := true }
def DeltaEmptiesUptoSaid : Prop := deltaEmptiesUptoRow.holds Try.pinned (OpenSpec.upto deltaEmptiesSpec)

/-- 'kinlaw2.ChangeBack', WHERE WHAT IT READS IS OF BULK AT MOST 1048576: true; the input reads as it did. -/
def changeBackUptoRow : OpenClaim := { program := "ytdfeloeainabjaa", sum := "9607e92ac3a078cef17e8f30b764a4ecd68c6f86c3aae815dc500a06b92e8fc5", func := "kinshape/kinlaw2.ChangeBack", spec := "changeBack", inPlace := ["internal/bytealg.abigen_runtime_cmpstring", "slices.overlaps[kinshape/api.Field]"], unfollowed := true, recurses := true, plainKeys := false, apart := false, narrowed := true }
def ChangeBackUptoSaid : Prop := changeBackUptoRow.holds Try.pinned (OpenSpec.upto changeBackSpec)

/-- 'kinlaw4.StatRow', WHERE WHAT IT READS IS OF BULK AT MOST 1048576: true; the input reads as it did. -/
def statRowUptoRow : OpenClaim := { program := "ytdfeloeainabjaa", sum := "9607e92ac3a078cef17e8f30b764a4ecd68c6f86c3aae815dc500a06b92e8fc5", func := "kinshape/kinlaw4.StatRow", spec := "statRow", inPlace := ["internal/bytealg.abigen_runtime_cmpstring", "slices.overlaps[kinshape/api.Node]", "slices.overlaps[kinshape/api.Prop]", "slices.overlaps[kinshape/api.Tie]"], unfollowed := true, recurses := true, plainKeys := false, apart := false, narrowed := true }
def StatRowUptoSaid : Prop := statRowUptoRow.holds Try.pinned (OpenSpec.upto statRowSpec)

/-- 'kinlaw2.RowsHold', WHERE WHAT IT READS IS OF BULK AT MOST 1048576: true; the input reads as it did. -/
def rowsHoldUptoRow : OpenClaim := { program := "ytdfeloeainabjaa", sum := "9607e92ac3a078cef17e8f30b764a4ecd68c6f86c3aae815dc500a06b92e8fc5", func := "kinshape/kinlaw2.RowsHold", spec := "rowsHold", inPlace := ["internal/bytealg.abigen_runtime_cmpstring", "slices.overlaps[kinshape/api.Prop]"], unfollowed := true, recurses := true, plainKeys := false, apart := false, narrowed := true }
def RowsHoldUptoSaid : Prop := rowsHoldUptoRow.holds Try.pinned (OpenSpec.upto rowsHoldSpec)

end Rows
end Go.Proofs.Ytdfeloeainabjaa
