/-
  No cell of these rows narrows 'for every input' (looked for: loops, veiled, ifaces, maps, wideKeys, modest, calm, conditions, laid).
  DERIVED. THE GIVEN ROWS OF THIS SEAT. 5 by the template 'for every input the law returns true; each argument reads behind the call as it read before'; 0 by the template 'total and deterministic' (their statements: YtldonhgcifhpgaaTotals.lean).
  GIVEN WITH THE SEED: the statements are not yours to turn. If you find one false, say at which input.
  Laid BY PROGRAM, IN A SANDBOX (cutbox-rows.mjs): the forced cells as the released guide's own fill.sh prints them over the translation 2bdd893504402352… (all of the seat's roots in one cut). By AI agents, Wed Nov 11 2026. No macro, syntax, notation, axiom, sorry.
-/
import Derived.Test.YtldonhgcifhpgaaChecked
import GoSem.Claim
import GoSem.ClaimJoined
import GoSem.ClaimMapViews
import Derived.JoinedTies
import Derived.KernelRfl
namespace Go.Proofs.Ytldonhgcifhpgaa
/- THE CELL 'sum', in the pinned program and in every row, IS THE sha256 OF THE DUMP (.gsa) THAT YtldonhgcifhpgaaProg.lean LOADS. Nothing in Lean hashes anything: it is a label: what it is worth is what the hold of that sum in a sandbox is worth. -/
noncomputable def Try.pinned : Pinned := { name := "ytldonhgcifhpgaa", sum := "2bdd8935044023526ea909f8ac131761957c850f9fb0eaa57283d631cbedbb39", checked := Try.checked }
namespace Rows
def none {H : Type} : Left H := { results := [], args := [] }

/-- 'kinlaw2.ChangeBack': WHATEVER THE INPUT: true; the input reads as it did. -/
def changeBackSpec : ChangeSpec := { name := "changeBack", fn := fun _ => fun
  | [d1, d2] => { results := [.lit (.bool true)], args := [d1, d2] }
  | _ => none }
def changeBackRow : OpenClaim := { program := "ytldonhgcifhpgaa", sum := "2bdd8935044023526ea909f8ac131761957c850f9fb0eaa57283d631cbedbb39", func := "kinshape/kinlaw2.ChangeBack", spec := "changeBack", inPlace := ["internal/bytealg.abigen_runtime_cmpstring", "slices.overlaps[kinshape/api.Field]"], unfollowed := true, recurses := true, plainKeys := false, apart := false }
def ChangeBackSaid : Prop := changeBackRow.holds Try.pinned (OpenSpec.ofChange changeBackSpec)

/-- ITS FALSE NEIGHBOUR: 'it returns false'. Refute it at one input. -/
def changeBackWrong : ChangeSpec := { name := "changeBack", fn := fun _ => fun
  | [d1, d2] => { results := [.lit (.bool false)], args := [d1, d2] }
  | _ => none }
def ChangeBackWrongFalsely : Prop := changeBackRow.holds Try.pinned (OpenSpec.ofChange changeBackWrong)

/-- 'kinlaw2.RowsHold': WHATEVER THE INPUT: true; the input reads as it did. -/
def rowsHoldSpec : ChangeSpec := { name := "rowsHold", fn := fun _ => fun
  | [d1, d2, d3] => { results := [.lit (.bool true)], args := [d1, d2, d3] }
  | _ => none }
def rowsHoldRow : OpenClaim := { program := "ytldonhgcifhpgaa", sum := "2bdd8935044023526ea909f8ac131761957c850f9fb0eaa57283d631cbedbb39", func := "kinshape/kinlaw2.RowsHold", spec := "rowsHold", inPlace := ["internal/bytealg.abigen_runtime_cmpstring", "slices.overlaps[kinshape/api.Prop]"], unfollowed := true, recurses := true, plainKeys := false, apart := false }
def RowsHoldSaid : Prop := rowsHoldRow.holds Try.pinned (OpenSpec.ofChange rowsHoldSpec)

/-- ITS FALSE NEIGHBOUR: 'it returns false'. Refute it at one input. -/
def rowsHoldWrong : ChangeSpec := { name := "rowsHold", fn := fun _ => fun
  | [d1, d2, d3] => { results := [.lit (.bool false)], args := [d1, d2, d3] }
  | _ => none }
def RowsHoldWrongFalsely : Prop := rowsHoldRow.holds Try.pinned (OpenSpec.ofChange rowsHoldWrong)

/-- 'kinlaw4.DiffNone': WHATEVER THE INPUT: true; the input reads as it did. -/
def diffNoneSpec : ChangeSpec := { name := "diffNone", fn := fun _ => fun
  | [d1, d2] => { results := [.lit (.bool true)], args := [d1, d2] }
  | _ => none }
def diffNoneRow : OpenClaim := { program := "ytldonhgcifhpgaa", sum := "2bdd8935044023526ea909f8ac131761957c850f9fb0eaa57283d631cbedbb39", func := "kinshape/kinlaw4.DiffNone", spec := "diffNone", inPlace := ["internal/bytealg.abigen_runtime_cmpstring", "slices.overlaps[kinshape/api.Field]"], unfollowed := true, recurses := true, plainKeys := false, apart := false }
def DiffNoneSaid : Prop := diffNoneRow.holds Try.pinned (OpenSpec.ofChange diffNoneSpec)

/-- ITS FALSE NEIGHBOUR: 'it returns false'. Refute it at one input. -/
def diffNoneWrong : ChangeSpec := { name := "diffNone", fn := fun _ => fun
  | [d1, d2] => { results := [.lit (.bool false)], args := [d1, d2] }
  | _ => none }
def DiffNoneWrongFalsely : Prop := diffNoneRow.holds Try.pinned (OpenSpec.ofChange diffNoneWrong)

/-- 'kinlaw1.GraphEnds': WHATEVER THE INPUT: true; the input reads as it did. -/
def graphEndsSpec : ChangeSpec := { name := "graphEnds", fn := fun _ => fun
  | [d1, d2] => { results := [.lit (.bool true)], args := [d1, d2] }
  | _ => none }
def graphEndsRow : OpenClaim := { program := "ytldonhgcifhpgaa", sum := "2bdd8935044023526ea909f8ac131761957c850f9fb0eaa57283d631cbedbb39", func := "kinshape/kinlaw1.GraphEnds", spec := "graphEnds", inPlace := ["internal/bytealg.abigen_runtime_cmpstring"], unfollowed := true, recurses := true, plainKeys := false, apart := false }
def GraphEndsSaid : Prop := graphEndsRow.holds Try.pinned (OpenSpec.ofChange graphEndsSpec)

/-- ITS FALSE NEIGHBOUR: 'it returns false'. Refute it at one input. -/
def graphEndsWrong : ChangeSpec := { name := "graphEnds", fn := fun _ => fun
  | [d1, d2] => { results := [.lit (.bool false)], args := [d1, d2] }
  | _ => none }
def GraphEndsWrongFalsely : Prop := graphEndsRow.holds Try.pinned (OpenSpec.ofChange graphEndsWrong)

/-- 'kinlaw1.DeltaBack': WHATEVER THE INPUT: true; the input reads as it did. -/
def deltaBackSpec : ChangeSpec := { name := "deltaBack", fn := fun _ => fun
  | [d1, d2, d3] => { results := [.lit (.bool true)], args := [d1, d2, d3] }
  | _ => none }
def deltaBackRow : OpenClaim := { program := "ytldonhgcifhpgaa", sum := "2bdd8935044023526ea909f8ac131761957c850f9fb0eaa57283d631cbedbb39", func := "kinshape/kinlaw1.DeltaBack", spec := "deltaBack", inPlace := ["internal/bytealg.abigen_runtime_cmpstring", "slices.overlaps[kinshape/api.Node]", "slices.overlaps[kinshape/api.Prop]", "slices.overlaps[kinshape/api.Tie]"], unfollowed := true, recurses := true, plainKeys := false, apart := false }
def DeltaBackSaid : Prop := deltaBackRow.holds Try.pinned (OpenSpec.ofChange deltaBackSpec)

/-- ITS FALSE NEIGHBOUR: 'it returns false'. Refute it at one input. -/
def deltaBackWrong : ChangeSpec := { name := "deltaBack", fn := fun _ => fun
  | [d1, d2, d3] => { results := [.lit (.bool false)], args := [d1, d2, d3] }
  | _ => none }
def DeltaBackWrongFalsely : Prop := deltaBackRow.holds Try.pinned (OpenSpec.ofChange deltaBackWrong)

/- THE SECOND FORM. 'bulk': how many values and letters a reading holds, each counted each time it is reached (what is shared counts as often as it is met; a slice's spare places count too). A statement '..UptoSaid' is the law's where the arguments, and the package variables that the reading takes, are together of bulk at most 1048576: NARROWER than '..Said'. Prove '..Said' where nothing that the law and all that it calls make is longer than what came in: it says more and counts as full. Else prove '..UptoSaid'. A law counts once. -/
mutual
def uptoBulk {H : Type} : DataW H → Nat
  | .lit (.string bytes) => bytes.length + 1
  | .lit _ => 1
  | .nil => 1
  | .ptr d => uptoBulk d + 1
  | .slice elems spare => uptoBulkAll elems + uptoBulkAll spare + 1
  | .agg parts => uptoBulkAll parts + 1
  | .iface _ d => uptoBulk d + 1
  | .map entries => uptoBulkEntries entries + 1
  | .held _ => 1
def uptoBulkAll {H : Type} : List (DataW H) → Nat
  | [] => 0
  | d :: r => uptoBulk d + uptoBulkAll r
def uptoBulkEntries {H : Type} : List (Lit × DataW H) → Nat
  | [] => 0
  | x :: r => uptoBulkEntry x + uptoBulkEntries r
def uptoBulkEntry {H : Type} : Lit × DataW H → Nat
  | (.string bytes, d) => bytes.length + uptoBulk d + 1
  | (_, d) => uptoBulk d + 1
 end
def uptoSmall : (H : Type) → List (DataW H) → Bool := fun _ ds => decide (uptoBulkAll ds ≤ 1048576)
def OpenSpec.upto (s : _root_.Go.ChangeSpec) : _root_.Go.OpenSpec := { _root_.Go.OpenSpec.ofChange s with cond := some uptoSmall }

/-- 'kinlaw2.ChangeBack', WHERE WHAT IT READS IS OF BULK AT MOST 1048576: true; the input reads as it did. -/
def changeBackUptoRow : OpenClaim := { program := "ytldonhgcifhpgaa", sum := "2bdd8935044023526ea909f8ac131761957c850f9fb0eaa57283d631cbedbb39", func := "kinshape/kinlaw2.ChangeBack", spec := "changeBack", inPlace := ["internal/bytealg.abigen_runtime_cmpstring", "slices.overlaps[kinshape/api.Field]"], unfollowed := true, recurses := true, plainKeys := false, apart := false, narrowed := true }
def ChangeBackUptoSaid : Prop := changeBackUptoRow.holds Try.pinned (OpenSpec.upto changeBackSpec)

/-- 'kinlaw2.RowsHold', WHERE WHAT IT READS IS OF BULK AT MOST 1048576: true; the input reads as it did. -/
def rowsHoldUptoRow : OpenClaim := { program := "ytldonhgcifhpgaa", sum := "2bdd8935044023526ea909f8ac131761957c850f9fb0eaa57283d631cbedbb39", func := "kinshape/kinlaw2.RowsHold", spec := "rowsHold", inPlace := ["internal/bytealg.abigen_runtime_cmpstring", "slices.overlaps[kinshape/api.Prop]"], unfollowed := true, recurses := true, plainKeys := false, apart := false, narrowed := true }
def RowsHoldUptoSaid : Prop := rowsHoldUptoRow.holds Try.pinned (OpenSpec.upto rowsHoldSpec)

/-- 'kinlaw4.DiffNone', WHERE WHAT IT READS IS OF BULK AT MOST 1048576: true; the input reads as it did. -/
def diffNoneUptoRow : OpenClaim := { program := "ytldonhgcifhpgaa", sum := "2bdd8935044023526ea909f8ac131761957c850f9fb0eaa57283d631cbedbb39", func := "kinshape/kinlaw4.DiffNone", spec := "diffNone", inPlace := ["internal/bytealg.abigen_runtime_cmpstring", "slices.overlaps[kinshape/api.Field]"], unfollowed := true, recurses := true, plainKeys := false, apart := false, narrowed := true }
def DiffNoneUptoSaid : Prop := diffNoneUptoRow.holds Try.pinned (OpenSpec.upto diffNoneSpec)

/-- 'kinlaw1.GraphEnds', WHERE WHAT IT READS IS OF BULK AT MOST 1048576: true; the input reads as it did. -/
def graphEndsUptoRow : OpenClaim := { program := "ytldonhgcifhpgaa", sum := "2bdd8935044023526ea909f8ac131761957c850f9fb0eaa57283d631cbedbb39", func := "kinshape/kinlaw1.GraphEnds", spec := "graphEnds", inPlace := ["internal/bytealg.abigen_runtime_cmpstring"], unfollowed := true, recurses := true, plainKeys := false, apart := false, narrowed := true }
def GraphEndsUptoSaid : Prop := graphEndsUptoRow.holds Try.pinned (OpenSpec.upto graphEndsSpec)

/-- 'kinlaw1.DeltaBack', WHERE WHAT IT READS IS OF BULK AT MOST 1048576: true; the input reads as it did. -/
def deltaBackUptoRow : OpenClaim := { program := "ytldonhgcifhpgaa", sum := "2bdd8935044023526ea909f8ac131761957c850f9fb0eaa57283d631cbedbb39", func := "kinshape/kinlaw1.DeltaBack", spec := "deltaBack", inPlace := ["internal/bytealg.abigen_runtime_cmpstring", "slices.overlaps[kinshape/api.Node]", "slices.overlaps[kinshape/api.Prop]", "slices.overlaps[kinshape/api.Tie]"], unfollowed := true, recurses := true, plainKeys := false, apart := false, narrowed := true }
def DeltaBackUptoSaid : Prop := deltaBackUptoRow.holds Try.pinned (OpenSpec.upto deltaBackSpec)

end Rows
end Go.Proofs.Ytldonhgcifhpgaa
