/- Proved: what of any schema is wrong, any as text, any text as one, any bond, and which go out of any kind, is what the document says. Conditions: the statement's own bound on the input's bulk. -/
import Derived.Test.YtfeccicogcnhcaaGreatDoorMg24
import Derived.Test.YtfeccicogcnhcaaGreatDoorMg23
import Derived.Test.YtfeccicogcnhcaaGreatDoorCards
import Derived.Test.YtfeccicogcnhcaaGreatDoorTie
import Derived.Deep.DeepHandedRow
import Derived.LaidHandle
import Derived.LaidLaws
namespace Go.Proofs.YtfeccicogcnhcaaGreatDoor.schemaTells
open Go.ChangeShapes Go.WideShapes Go.ChangeAt Go.RowKit

theorem own : ownKnob Tryz.prog.godebug = none := by kernel_rfl
theorem laidOut : laidOutB Tryz.prog = true := by kernel_rfl

theorem laid_parts {W : World} (h : laidMetH Tryz.prog Rows.schemaTellsUptoRow.laid W) : laidMet Tryz.prog (Rows.schemaTellsUptoRow.laid.filter fun x => x.2.handleName?.isNone) W ∧ handlesMet Tryz.prog [("errors.errorType", Rows.laid_errors_errorType)] W := h
theorem laid_plain {W : World} (h : laidMetH Tryz.prog Rows.schemaTellsUptoRow.laid W) : laidMet Tryz.prog (Rows.schemaTellsUptoRow.laid.filter fun x => x.2.handleName?.isNone) W := (laid_parts h).1
theorem et : Tryz.prog.globalNamed "errors.errorType" = some 1 := by kernel_rfl
theorem rt : (Tryz.prog.cutTypes.find? (·.1 == "internal/reflectlite.rtype")).map (·.2) = some 147 := by kernel_rfl
theorem oneRow : ((List.range 238).filter fun t => Tryz.prog.rowNamed t [101, 114, 114, 111, 114]) = [29] := by kernel_rfl
theorem tsize : Tryz.prog.types.size = 238 := by kernel_rfl
/-- What the row's list gives: the variable holds the handle of the type error. -/
theorem glob {W : World} (h : laidMetH Tryz.prog Rows.schemaTellsUptoRow.laid W) : GlobOk W := by
  have h' := laid_parts h
  obtain ⟨name, u, ty, e1, e2, e3, e4, e5⟩ := h'.2 _ (List.mem_singleton.2 rfl)
  have en : name = [101, 114, 114, 111, 114] := (Option.some.inj e1).symm
  subst en
  obtain rfl := Option.some.inj (rt.symm.trans e2)
  have hm : ty ∈ (List.range 238).filter fun t => Tryz.prog.rowNamed t [101, 114, 114, 111, 114] := List.mem_filter.2 ⟨List.mem_range.2 (by rw [← tsize]; exact e3), e4⟩
  rw [oneRow] at hm
  obtain rfl := List.mem_singleton.1 hm
  have hh : typeHandle Tryz.prog 29 = .pointer (some ⟨10, 29, none⟩) := by kernel_rfl
  rw [hh] at e5
  unfold GlobOk
  simpa using World.var?_cell et e5 0
theorem gt : Tryz.prog.globalNamed "kinshape/schema.types" = some 0 := by kernel_rfl
theorem gty : (Tryz.prog.globals[0]?).map (·.type) = some 69 := by kernel_rfl
/-- What the row's list gives: the variable holds the words of the types. -/
theorem typ {W : World} (h : laidMetH Tryz.prog Rows.schemaTellsUptoRow.laid W) : TypOk W := by
  have hr := Lib.laidMet.reads (laid_plain h) (n := "kinshape/schema.types") (d := Rows.laid_kinshape_schema_types) (List.mem_filter.2 ⟨by simp [Rows.schemaTellsUptoRow], rfl⟩)
  have hx := fun i hi b hd => strs_of_reads gt gty Tryz.underlying69 Tryz.underlying9 (by kernel_rfl) hr i hi (b := b) hd
  exact ⟨hx 1 (by omega) _ rfl, hx 2 (by omega) _ rfl, hx 3 (by omega) _ rfl⟩
theorem typ4 {W : World} (h : laidMetH Tryz.prog Rows.schemaTellsUptoRow.laid W) : Typ4 W := by
  refine ⟨typ h, ?_⟩
  have hr := Lib.laidMet.reads (laid_plain h) (n := "kinshape/schema.types") (d := Rows.laid_kinshape_schema_types) (List.mem_filter.2 ⟨by simp [Rows.schemaTellsUptoRow], rfl⟩)
  have hx := fun i hi b hd => strs_of_reads gt gty Tryz.underlying69 Tryz.underlying9 (by kernel_rfl) hr i hi (b := b) hd
  exact hx 0 (by omega) _ rfl
set_option maxRecDepth 100000 in
theorem contract (H : Type) (enc : TypeId × Value → H) (W : World) (base : Nat) (args : Array Value) (ds gs : List (DataW H)) (before : List MemPlace)
    (hval : ∀ (j : Nat) t v, Tryz.f3.params[j]? = some t → args[j]? = some v → Value.okWide Tryz.prog W .any base t v)
    (hW : DataW.Whole enc Tryz.prog Tryz.f3.params.toList Rows.schemaTellsSpec.vars false W args.toList ds gs before) (hk : Rows.uptoSmall H (ds ++ gs) = true) (hL : laidMetH Tryz.prog Rows.schemaTellsUptoRow.laid W) (hSh : W.ShapedOpen Tryz.prog) :
    Calls Tryz.prog 3 args W fun e W' => ∃ v, e = .returned v ∧ Rows.schemaTellsSpec.post enc Tryz.prog Tryz.f3 false true false false W args v W' := by
  have hW' := hW
  obtain ⟨p, q, hA0, hV, rfl, hfz, hnd⟩ := hW
  have hA : DataW.TrodAll enc Tryz.prog W 0 (fun _ => true) true Tryz.f3.params.toList args.toList ds p := hA0
  rw [Tryz.params3] at hA hval
  obtain ⟨v0, v1, v2, d0, d1, d2, p0, p1, p2, rfl, rfl, rfl, h0, h1, h2⟩ := trodAll_three hA
  obtain ⟨rfl, rfl⟩ := trodVars_none hV
  clear hA0
  simp only [List.append_nil] at hW' hk
  have hlt : ∀ x ∈ p0 ++ p1 ++ p2, x.block < W.heap.size := fun x hx => by simpa using hW'.lt x (by simpa using hx)
  have hargs0 : ∀ (W' : World), Below W.heap.size W W' → DataW.Trod enc Tryz.prog W' 0 (fun b => decide (b < W.heap.size)) true 25 v0 d0 p0 :=
    fun W' hn => Below.trod laidOut (by kernel_rfl) (of_decide_eq_true (by kernel_rfl)) h0 hn (fun x hx => hlt x (by simp [hx]))
  have hargs1 : ∀ (W' : World), Below W.heap.size W W' → DataW.Trod enc Tryz.prog W' 0 (fun b => decide (b < W.heap.size)) true 9 v1 d1 p1 :=
    fun W' hn => Below.trod laidOut (by kernel_rfl) (of_decide_eq_true (by kernel_rfl)) h1 hn (fun x hx => hlt x (by simp [hx]))
  have hargs2 : ∀ (W' : World), Below W.heap.size W W' → DataW.Trod enc Tryz.prog W' 0 (fun b => decide (b < W.heap.size)) true 9 v2 d2 p2 :=
    fun W' hn => Below.trod laidOut (by kernel_rfl) (of_decide_eq_true (by kernel_rfl)) h2 hn (fun x hx => hlt x (by simp [hx]))
  obtain ⟨y0, z0, x0, rfl, f0⟩ := arg_schema (hval 0 _ _ rfl rfl) h0 (bulk_small hk (by simp))
  obtain ⟨x1, rfl, f1⟩ := arg_str (hval 1 _ _ rfl rfl) h1 (bulk_small hk (by simp))
  obtain ⟨x2, rfl, f2⟩ := arg_str (hval 2 _ _ rfl rfl) h2 (bulk_small hk (by simp))
  refine (schemaTells_any x0 x1 x2 y0 z0 W (txok_of (laid_plain hL) hSh (List.mem_filter.2 ⟨by simp [Rows.schemaTellsUptoRow], rfl⟩) (List.mem_filter.2 ⟨by simp [Rows.schemaTellsUptoRow], rfl⟩) (List.mem_filter.2 ⟨by simp [Rows.schemaTellsUptoRow], rfl⟩)) (typ4 hL) (glob hL) f0 f1 f2).mono fun e W' ⟨he, hnx⟩ => ?_
  subst he
  refine ⟨_, rfl, _, _, _, [], _, [], hW', ?_, trodAll_mk3 (hargs0 _ hnx) (hargs1 _ hnx) (hargs2 _ hnx), rfl, hnx.frame _, fun h => by cases h⟩
  exact trodAll_mk1 (shut_bool Tryz.underlying4 _)

/-- So many blocks has the settled world. -/
noncomputable def low : Nat := (World.holding Tryz.prog default ⟨#[], #[], []⟩).heap.size
/-- A world for the witness: the settled one, the variables laid. -/
noncomputable def laidWorld (os : Os) : World :=
  { World.holding Tryz.prog os ⟨#[.cells #[.string ⟨#[118, 97, 108, 117, 101, 32, 111, 117, 116, 32, 111, 102, 32, 114, 97, 110, 103, 101]⟩] 210, .cells #[.string ⟨#[105, 110, 118, 97, 108, 105, 100, 32, 115, 121, 110, 116, 97, 120]⟩] 210], #[], []⟩ with heap := (layVal (layErr (layErr (layVar (layVar (layVar (layVar (layVar (layVar (World.holding Tryz.prog os ⟨#[.cells #[.string ⟨#[118, 97, 108, 117, 101, 32, 111, 117, 116, 32, 111, 102, 32, 114, 97, 110, 103, 101]⟩] 210, .cells #[.string ⟨#[105, 110, 118, 97, 108, 105, 100, 32, 115, 121, 110, 116, 97, 120]⟩] 210], #[], []⟩).heap 8 Rows.laid_math_bits_deBruijn32tab) 9 Rows.laid_math_bits_deBruijn64tab) 3 Rows.laid_internal_strconv_uint64pow10) 5 Rows.laid_unicode_utf8_acceptRanges) 0 Rows.laid_kinshape_schema_types) 4 Rows.laid_unicode_utf8_first) 7 208 (low + 0)) 6 208 (low + 1)) 1 (.iface 147 (.agg #[.pointer (some ⟨10, 29, none⟩)]))) }
theorem laid_met (os : Os) : laidMetH Tryz.prog Rows.schemaTellsUptoRow.laid ((laidWorld os).forCall (fun _ _ => 0) ⟨#[], #[.agg #[.slice none 0 0, .slice none 0 0], .string .empty, .string .empty], []⟩).memory :=
  laidMetH_of_parts (laidMet_of_run' 8 (by kernel_rfl) (by kernel_rfl)) (by kernel_rfl)
theorem reads (os : Os) {H : Type} (enc : TypeId × Value → H) : ∃ places, DataW.whole enc Tryz.prog ((laidWorld os).forCall (fun _ _ => 0) ⟨#[], #[.agg #[.slice none 0 0, .slice none 0 0], .string .empty, .string .empty], []⟩).memory Tryz.f3.params.toList Rows.schemaTellsSpec.vars false #[.agg #[.slice none 0 0, .slice none 0 0], .string .empty, .string .empty].toList 8 = some ([.agg [.nil, .nil], .lit (.string []), .lit (.string [])], [], places) :=
  ⟨[], by kernel_rfl⟩
set_option maxRecDepth 100000 in
theorem lifted (os : Os) (started : os.Started) (H : Type) (enc : TypeId × Value → H) (F : Stop.Interp) :
    ReturnsInHanded {} Tryz.checked os 3 .any ((Rows.OpenSpec.upto Rows.schemaTellsSpec).preRow enc Tryz.prog Tryz.f3 Rows.schemaTellsUptoRow.domain false Rows.schemaTellsUptoRow.laid) (((Rows.OpenSpec.upto Rows.schemaTellsSpec).at F).post enc Tryz.prog Tryz.f3 false true false false) := by
  obtain ⟨places, hx⟩ := reads os enc
  refine returnsInHanded_of_row (C := Tryz.checked) (s := Rows.OpenSpec.upto Rows.schemaTellsSpec) own started (by kernel_rfl) Tryz.func3
    (witness_row_at (enc := enc) (C := Tryz.checked) false (laidWorld os) #[.agg #[.slice none 0 0, .slice none 0 0], .string .empty, .string .empty] rfl (by kernel_rfl) (by kernel_rfl) (by kernel_rfl)
      (OpenSpec.preRow_of_cond 8 hx (by kernel_rfl) (fun k hk => by cases hk; kernel_rfl) (by kernel_rfl) (laid_met os))) ?_
  intro W base args ds gs before hval hW _ hcond _ hL hSh _
  exact contract H enc W base args ds gs before hval hW (hcond _ rfl) hL hSh
theorem said : Rows.SchemaTellsUptoSaid :=
  OpenClaim.holds_of_cond 3 Tryz.f3 rfl rfl rfl rfl rfl rfl rfl ⟨rfl, rfl, rfl, rfl, rfl⟩ rfl rfl rfl rfl rfl (by kernel_rfl) Tryz.func3 (by kernel_rfl)
    (of_decide_eq_true (by kernel_rfl)) (by unfold Func.isWrapper; first | (rw [if_pos (by decide +kernel)]; kernel_rfl) | (rw [if_neg (by decide +kernel)]; exact ⟨rfl, rfl⟩))
    (fun os started H enc _ F => by rw [OpenClaim.pre_eq_preRow]; exact lifted os started H enc F)
theorem plain (f : FuncId) (fn : Func) (hf : Tryz.pinned.checked.prog.funcNamed "kinshape/kinlaw1.SchemaTells" = some f) (hfn : Tryz.pinned.checked.prog.funcs[f]? = some fn) :
    true = Tryz.pinned.checked.prog.looks [] ∧ ∀ (j : Nat) t, fn.params[j]? = some t → Tryz.pinned.checked.prog.wantsStandIn t = false := by
  obtain rfl : f = 3 := Option.some.inj ((show Tryz.prog.funcNamed "kinshape/kinlaw1.SchemaTells" = some 3 by kernel_rfl).symm.trans hf) |>.symm
  obtain rfl : fn = Tryz.f3 := (Option.some.inj (Tryz.func3.symm.trans hfn)).symm
  refine ⟨by kernel_rfl, fun j t ht => ?_⟩
  rw [Tryz.params3] at ht
  have hm := Array.mem_of_getElem? ht
  simp only [List.mem_toArray, List.mem_cons, List.not_mem_nil, or_false] at hm
  rcases hm with rfl | rfl | rfl
  · exact (show Tryz.prog.wantsStandIn 25 = false by kernel_rfl)
  · exact (show Tryz.prog.wantsStandIn 9 = false by kernel_rfl)
  · exact (show Tryz.prog.wantsStandIn 9 = false by kernel_rfl)
theorem proved : Rows.SchemaTellsUptoCardSaid :=
  Claim7.holds_tied_plain_at .later [] _ _ _ _ said (fun _ h => by cases h) (by kernel_rfl) (fun _ h => by cases h) schemaTellsUpto_row_tie rfl ⟨rfl, rfl⟩ (by kernel_rfl) rfl plain (by kernel_rfl)
#print axioms proved
end Go.Proofs.YtfeccicogcnhcaaGreatDoor.schemaTells
