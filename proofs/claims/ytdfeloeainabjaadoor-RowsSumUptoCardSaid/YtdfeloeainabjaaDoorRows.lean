/-
  NARROWER THAN 'FOR EVERY INPUT', by the rows' own cells (each row's printed sentence says how): GraphFull: laid · RecordMany: laid · RowsSum: laid · KindLine: laid · KindTells: laid.
  DERIVED. THE GIVEN ROWS OF THIS SEAT. 5 by the template 'for every input the law returns true; each argument reads behind the call as it read before'; 0 by the template 'total and deterministic' (their statements: YtdfeloeainabjaaDoorTotals.lean).
  GIVEN WITH THE SEED: the statements are not yours to turn. If you find one false, say at which input.
  Laid BY PROGRAM, IN A SANDBOX (cutbox-rows.mjs): the forced cells as the released guide's own fill.sh prints them over the translation 8a8516c24efaca45… (all of the seat's roots in one cut). By AI agents, Wed Nov 11 2026. No macro, syntax, notation, axiom, sorry.
-/
import Derived.Test.YtdfeloeainabjaaDoorChecked
import GoSem.Claim
import GoSem.ClaimJoined
import GoSem.ClaimMapViews
import Derived.JoinedTies
import Derived.KernelRfl
namespace Go.Proofs.YtdfeloeainabjaaDoor
/- THE CELL 'sum', in the pinned program and in every row, IS THE sha256 OF THE DUMP (.gsa) THAT YtdfeloeainabjaaDoorProg.lean LOADS. Nothing in Lean hashes anything: it is a label: what it is worth is what the hold of that sum in a sandbox is worth. -/
noncomputable def Tryd.pinned : Pinned := { name := "ytdfeloeainabjaadoor", sum := "8a8516c24efaca45e74700f41c1b2bc400526003d3e3ae9c2bb772da372dc6c7", checked := Tryd.checked }
namespace Rows
def none {H : Type} : Left H := { results := [], args := [] }

/- WHAT THE LISTED PACKAGE-LEVEL VARIABLES READ AS WHEN THE CALL BEGINS. Each datum BY PROGRAM (the guide's laid-datum.mjs) off the statement by which the dump's own 'gosem.cut.vars' lays the variable. In a bare row this is a premise. The card (YtdfeloeainabjaaDoorCards.lean) ties it to the program's text. -/
def laid_errors_errorType {H : Type} : DataW H := .iface "internal/reflectlite.rtype" (.agg [.ptr (.lit (.string [101, 114, 114, 111, 114]))])

/-- 'kinlaw4.GraphFull': WHATEVER THE INPUT: true; the input reads as it did. -/
def graphFullSpec : ChangeSpec := { name := "graphFull", fn := fun _ => fun
  | [d1, d2] => { results := [.lit (.bool true)], args := [d1, d2] }
  | _ => none }
def graphFullRow : OpenClaim := { program := "ytdfeloeainabjaadoor", sum := "8a8516c24efaca45e74700f41c1b2bc400526003d3e3ae9c2bb772da372dc6c7", func := "kinshape/kinlaw4.GraphFull", spec := "graphFull", inPlace := ["internal/bytealg.abigen_runtime_cmpstring", "internal/reflectlite.ValueOf", "(internal/reflectlite.Value).Type", "(internal/reflectlite.Value).IsNil", "internal/reflectlite.TypeOf", "(internal/reflectlite.Value).Elem", "(internal/reflectlite.Value).Set"], unfollowed := true, recurses := true, named := ["errors.errorType"], apart := false, laid := [("errors.errorType", laid_errors_errorType)] }
def GraphFullSaid : Prop := graphFullRow.holds Tryd.pinned (OpenSpec.ofChange graphFullSpec)

/-- ITS FALSE NEIGHBOUR: 'it returns false'. Refute it at one input. -/
def graphFullWrong : ChangeSpec := { name := "graphFull", fn := fun _ => fun
  | [d1, d2] => { results := [.lit (.bool false)], args := [d1, d2] }
  | _ => none }
def GraphFullWrongFalsely : Prop := graphFullRow.holds Tryd.pinned (OpenSpec.ofChange graphFullWrong)

/-- 'kinlaw4.RecordMany': WHATEVER THE INPUT: true; the input reads as it did. -/
def recordManySpec : ChangeSpec := { name := "recordMany", fn := fun _ => fun
  | [d1, d2] => { results := [.lit (.bool true)], args := [d1, d2] }
  | _ => none }
def recordManyRow : OpenClaim := { program := "ytdfeloeainabjaadoor", sum := "8a8516c24efaca45e74700f41c1b2bc400526003d3e3ae9c2bb772da372dc6c7", func := "kinshape/kinlaw4.RecordMany", spec := "recordMany", inPlace := ["internal/bytealg.abigen_runtime_cmpstring", "slices.overlaps[kinshape/api.Prop]", "internal/reflectlite.ValueOf", "(internal/reflectlite.Value).Type", "(internal/reflectlite.Value).IsNil", "internal/reflectlite.TypeOf", "(internal/reflectlite.Value).Elem", "(internal/reflectlite.Value).Set"], unfollowed := true, recurses := true, named := ["errors.errorType"], apart := false, laid := [("errors.errorType", laid_errors_errorType)] }
def RecordManySaid : Prop := recordManyRow.holds Tryd.pinned (OpenSpec.ofChange recordManySpec)

/-- ITS FALSE NEIGHBOUR: 'it returns false'. Refute it at one input. -/
def recordManyWrong : ChangeSpec := { name := "recordMany", fn := fun _ => fun
  | [d1, d2] => { results := [.lit (.bool false)], args := [d1, d2] }
  | _ => none }
def RecordManyWrongFalsely : Prop := recordManyRow.holds Tryd.pinned (OpenSpec.ofChange recordManyWrong)

/-- 'kinlaw4.RowsSum': WHATEVER THE INPUT: true; the input reads as it did. -/
def rowsSumSpec : ChangeSpec := { name := "rowsSum", fn := fun _ => fun
  | [d1, d2] => { results := [.lit (.bool true)], args := [d1, d2] }
  | _ => none }
def rowsSumRow : OpenClaim := { program := "ytdfeloeainabjaadoor", sum := "8a8516c24efaca45e74700f41c1b2bc400526003d3e3ae9c2bb772da372dc6c7", func := "kinshape/kinlaw4.RowsSum", spec := "rowsSum", inPlace := ["internal/bytealg.abigen_runtime_cmpstring", "internal/reflectlite.ValueOf", "(internal/reflectlite.Value).Type", "(internal/reflectlite.Value).IsNil", "internal/reflectlite.TypeOf", "(internal/reflectlite.Value).Elem", "(internal/reflectlite.Value).Set"], unfollowed := true, recurses := true, named := ["errors.errorType"], apart := false, laid := [("errors.errorType", laid_errors_errorType)] }
def RowsSumSaid : Prop := rowsSumRow.holds Tryd.pinned (OpenSpec.ofChange rowsSumSpec)

/-- ITS FALSE NEIGHBOUR: 'it returns false'. Refute it at one input. -/
def rowsSumWrong : ChangeSpec := { name := "rowsSum", fn := fun _ => fun
  | [d1, d2] => { results := [.lit (.bool false)], args := [d1, d2] }
  | _ => none }
def RowsSumWrongFalsely : Prop := rowsSumRow.holds Tryd.pinned (OpenSpec.ofChange rowsSumWrong)

/-- 'kinlaw4.KindLine': WHATEVER THE INPUT: true; the input reads as it did. -/
def kindLineSpec : ChangeSpec := { name := "kindLine", fn := fun _ => fun
  | [d1, d2] => { results := [.lit (.bool true)], args := [d1, d2] }
  | _ => none }
def kindLineRow : OpenClaim := { program := "ytdfeloeainabjaadoor", sum := "8a8516c24efaca45e74700f41c1b2bc400526003d3e3ae9c2bb772da372dc6c7", func := "kinshape/kinlaw4.KindLine", spec := "kindLine", inPlace := ["internal/bytealg.abigen_runtime_cmpstring", "slices.overlaps[kinshape/api.Field]", "internal/reflectlite.ValueOf", "(internal/reflectlite.Value).Type", "(internal/reflectlite.Value).IsNil", "internal/reflectlite.TypeOf", "(internal/reflectlite.Value).Elem", "(internal/reflectlite.Value).Set"], unfollowed := true, recurses := true, named := ["errors.errorType"], apart := false, laid := [("errors.errorType", laid_errors_errorType)] }
def KindLineSaid : Prop := kindLineRow.holds Tryd.pinned (OpenSpec.ofChange kindLineSpec)

/-- ITS FALSE NEIGHBOUR: 'it returns false'. Refute it at one input. -/
def kindLineWrong : ChangeSpec := { name := "kindLine", fn := fun _ => fun
  | [d1, d2] => { results := [.lit (.bool false)], args := [d1, d2] }
  | _ => none }
def KindLineWrongFalsely : Prop := kindLineRow.holds Tryd.pinned (OpenSpec.ofChange kindLineWrong)

/-- 'kinlaw1.KindTells': WHATEVER THE INPUT: true; the input reads as it did. -/
def kindTellsSpec : ChangeSpec := { name := "kindTells", fn := fun _ => fun
  | [d1, d2, d3] => { results := [.lit (.bool true)], args := [d1, d2, d3] }
  | _ => none }
def kindTellsRow : OpenClaim := { program := "ytdfeloeainabjaadoor", sum := "8a8516c24efaca45e74700f41c1b2bc400526003d3e3ae9c2bb772da372dc6c7", func := "kinshape/kinlaw1.KindTells", spec := "kindTells", inPlace := ["internal/bytealg.abigen_runtime_cmpstring", "slices.overlaps[kinshape/api.Field]", "internal/reflectlite.ValueOf", "(internal/reflectlite.Value).Type", "(internal/reflectlite.Value).IsNil", "internal/reflectlite.TypeOf", "(internal/reflectlite.Value).Elem", "(internal/reflectlite.Value).Set"], unfollowed := true, recurses := true, named := ["errors.errorType"], apart := false, laid := [("errors.errorType", laid_errors_errorType)] }
def KindTellsSaid : Prop := kindTellsRow.holds Tryd.pinned (OpenSpec.ofChange kindTellsSpec)

/-- ITS FALSE NEIGHBOUR: 'it returns false'. Refute it at one input. -/
def kindTellsWrong : ChangeSpec := { name := "kindTells", fn := fun _ => fun
  | [d1, d2, d3] => { results := [.lit (.bool false)], args := [d1, d2, d3] }
  | _ => none }
def KindTellsWrongFalsely : Prop := kindTellsRow.holds Tryd.pinned (OpenSpec.ofChange kindTellsWrong)

/- THE SECOND FORM. 'bulk': how many values and letters a reading holds, each counted each time it is reached (what is shared counts as often as it is met; a slice's spare places count too). A statement '..UptoSaid' is the law's where the arguments, and the package variables that the reading takes, are together of bulk at most 1048576: NARROWER than '..Said'. Prove '..Said' where nothing that the law and all that it calls make is longer than what came in: it says more and counts as full. Else prove '..UptoSaid'. A law counts once. -/
mutual
def uptoBulk {H : Type} : DataW H → Nat
  | .lit (.string bytes) => bytes.length + 1
  | .lit _ => 1
  | .nil => 1
  | .ptr d => uptoBulk d + 1
  | .slice elems spare => uptoBulkAll elems + uptoBulkAll spare + 1
  | .agg parts => uptoBulkAll parts + 1
  | .iface _ d => uptoBulk d + 1
  | .map entries => uptoBulkEntries entries + 1
  | .held _ => 1
def uptoBulkAll {H : Type} : List (DataW H) → Nat
  | [] => 0
  | d :: r => uptoBulk d + uptoBulkAll r
def uptoBulkEntries {H : Type} : List (Lit × DataW H) → Nat
  | [] => 0
  | x :: r => uptoBulkEntry x + uptoBulkEntries r
def uptoBulkEntry {H : Type} : Lit × DataW H → Nat
  | (.string bytes, d) => bytes.length + uptoBulk d + 1
  | (_, d) => uptoBulk d + 1
 end
def uptoSmall : (H : Type) → List (DataW H) → Bool := fun _ ds => decide (uptoBulkAll ds ≤ 1048576)
def OpenSpec.upto (s : _root_.Go.ChangeSpec) : _root_.Go.OpenSpec := { _root_.Go.OpenSpec.ofChange s with cond := some uptoSmall }

/-- 'kinlaw4.GraphFull', WHERE WHAT IT READS IS OF BULK AT MOST 1048576: true; the input reads as it did. -/
def graphFullUptoRow : OpenClaim := { program := "ytdfeloeainabjaadoor", sum := "8a8516c24efaca45e74700f41c1b2bc400526003d3e3ae9c2bb772da372dc6c7", func := "kinshape/kinlaw4.GraphFull", spec := "graphFull", inPlace := ["internal/bytealg.abigen_runtime_cmpstring", "internal/reflectlite.ValueOf", "(internal/reflectlite.Value).Type", "(internal/reflectlite.Value).IsNil", "internal/reflectlite.TypeOf", "(internal/reflectlite.Value).Elem", "(internal/reflectlite.Value).Set"], unfollowed := true, recurses := true, named := ["errors.errorType"], apart := false, laid := [("errors.errorType", laid_errors_errorType)], narrowed := true }
def GraphFullUptoSaid : Prop := graphFullUptoRow.holds Tryd.pinned (OpenSpec.upto graphFullSpec)

/-- 'kinlaw4.RecordMany', WHERE WHAT IT READS IS OF BULK AT MOST 1048576: true; the input reads as it did. -/
def recordManyUptoRow : OpenClaim := { program := "ytdfeloeainabjaadoor", sum := "8a8516c24efaca45e74700f41c1b2bc400526003d3e3ae9c2bb772da372dc6c7", func := "kinshape/kinlaw4.RecordMany", spec := "recordMany", inPlace := ["internal/bytealg.abigen_runtime_cmpstring", "slices.overlaps[kinshape/api.Prop]", "internal/reflectlite.ValueOf", "(internal/reflectlite.Value).Type", "(internal/reflectlite.Value).IsNil", "internal/reflectlite.TypeOf", "(internal/reflectlite.Value).Elem", "(internal/reflectlite.Value).Set"], unfollowed := true, recurses := true, named := ["errors.errorType"], apart := false, laid := [("errors.errorType", laid_errors_errorType)], narrowed := true }
def RecordManyUptoSaid : Prop := recordManyUptoRow.holds Tryd.pinned (OpenSpec.upto recordManySpec)

/-- 'kinlaw4.RowsSum', WHERE WHAT IT READS IS OF BULK AT MOST 1048576: true; the input reads as it did. -/
def rowsSumUptoRow : OpenClaim := { program := "ytdfeloeainabjaadoor", sum := "8a8516c24efaca45e74700f41c1b2bc400526003d3e3ae9c2bb772da372dc6c7", func := "kinshape/kinlaw4.RowsSum", spec := "rowsSum", inPlace := ["internal/bytealg.abigen_runtime_cmpstring", "internal/reflectlite.ValueOf", "(internal/reflectlite.Value).Type", "(internal/reflectlite.Value).IsNil", "internal/reflectlite.TypeOf", "(internal/reflectlite.Value).Elem", "(internal/reflectlite.Value).Set"], unfollowed := true, recurses := true, named := ["errors.errorType"], apart := false, laid := [("errors.errorType", laid_errors_errorType)], narrowed := true }
def RowsSumUptoSaid : Prop := rowsSumUptoRow.holds Tryd.pinned (OpenSpec.upto rowsSumSpec)

/-- 'kinlaw4.KindLine', WHERE WHAT IT READS IS OF BULK AT MOST 1048576: true; the input reads as it did. -/
def kindLineUptoRow : OpenClaim := { program := "ytdfeloeainabjaadoor", sum := "8a8516c24efaca45e74700f41c1b2bc400526003d3e3ae9c2bb772da372dc6c7", func := "kinshape/kinlaw4.KindLine", spec := "kindLine", inPlace := ["internal/bytealg.abigen_runtime_cmpstring", "slices.overlaps[kinshape/api.Field]", "internal/reflectlite.ValueOf", "(internal/reflectlite.Value).Type", "(internal/reflectlite.Value).IsNil", "internal/reflectlite.TypeOf", "(internal/reflectlite.Value).Elem", "(internal/reflectlite.Value).Set"], unfollowed := true, recurses := true, named := ["errors.errorType"], apart := false, laid := [("errors.errorType", laid_errors_errorType)], narrowed := true }
def KindLineUptoSaid : Prop := kindLineUptoRow.holds Tryd.pinned (OpenSpec.upto kindLineSpec)

/-- 'kinlaw1.KindTells', WHERE WHAT IT READS IS OF BULK AT MOST 1048576: true; the input reads as it did. -/
def kindTellsUptoRow : OpenClaim := { program := "ytdfeloeainabjaadoor", sum := "8a8516c24efaca45e74700f41c1b2bc400526003d3e3ae9c2bb772da372dc6c7", func := "kinshape/kinlaw1.KindTells", spec := "kindTells", inPlace := ["internal/bytealg.abigen_runtime_cmpstring", "slices.overlaps[kinshape/api.Field]", "internal/reflectlite.ValueOf", "(internal/reflectlite.Value).Type", "(internal/reflectlite.Value).IsNil", "internal/reflectlite.TypeOf", "(internal/reflectlite.Value).Elem", "(internal/reflectlite.Value).Set"], unfollowed := true, recurses := true, named := ["errors.errorType"], apart := false, laid := [("errors.errorType", laid_errors_errorType)], narrowed := true }
def KindTellsUptoSaid : Prop := kindTellsUptoRow.holds Tryd.pinned (OpenSpec.upto kindTellsSpec)

end Rows
end Go.Proofs.YtdfeloeainabjaaDoor
