/- Parts: AsL, AwA, AwB. -/
import Derived.Test.YtakidgndipnciaaDoorMg06
import Derived.Test.YtakidgndipnciaaDoorMg04
import Derived.Test.YtakidgndipnciaaDoorMg02
import Derived.Test.YtakidgndipnciaaDoorMg03
import Derived.Deep.DeepCutAuto
import Derived.Test.YtakidgndipnciaaDoorMg08
import Derived.Deep.CutBlock
import Derived.Deep.Light
/- Plain: how tests and steps of a path lie in memory. No condition. -/
namespace Go.Proofs.YtakidgndipnciaaDoor
open Go Go.RowKit

def Tst.ok (t : Tst) : Prop := Sm t.name ∧ I64 t.how ∧ t.v.ok
def Tst.enc (t : Tst) : List Value := [.string t.name, .int .i64 t.how, .int .i64 t.v.ty, .int .i64 t.v.n, .string t.v.s]
def tstL : Lay Tst := flatL 5 Tst.ok Tst.enc (fun _ => rfl)
def stpL : Lay Stp where
  sz := 4
  cells w d cs := ∃ v, cs = [.string d.bond, .bool d.back, .string d.kind, v] ∧ Sm d.bond ∧ Sm d.kind ∧ Sl tstL w v d.tests
  len h := by obtain ⟨v, rfl, _⟩ := h; rfl
  below hb h := by obtain ⟨v, rfl, h1, h2, h⟩ := h; exact ⟨v, rfl, h1, h2, h.below hb⟩
section
variable {w : World} {A : Option Addr} {k n c : Nat}
theorem tst_all {l : List Tst} (h : Sl tstL w (.slice A n c) l) (hn : 0 < l.length) :
    ∃ b o, A = some ⟨b, o, none⟩ ∧ ∀ k d, l[k]? = some d → d.ok ∧ w.cell? ⟨b, o + k * 5, none⟩ = some (.string d.name) ∧ w.cell? ⟨b, o + k * 5 + 1, none⟩ = some (.int .i64 d.how) ∧ w.cell? ⟨b, o + k * 5 + 2, none⟩ = some (.int .i64 d.v.ty) ∧ w.cell? ⟨b, o + k * 5 + 3, none⟩ = some (.int .i64 d.v.n) ∧ w.cell? ⟨b, o + k * 5 + 4, none⟩ = some (.string d.v.s) := by
  obtain ⟨b, o, hA, hall⟩ := h.all hn
  refine ⟨b, o, hA, fun k d hk => ?_⟩
  obtain ⟨cs, ⟨rfl, ok⟩, hx⟩ := hall k d hk
  exact ⟨ok, hx 0 _ rfl, hx 1 _ rfl, hx 2 _ rfl, hx 3 _ rfl, hx 4 _ rfl⟩
theorem tst_at {l : List Tst} (h : Sl tstL w (.slice A n c) l) {d : Tst} (hk : l[k]? = some d) :
    ∃ b o, A = some ⟨b, o, none⟩ ∧ d.ok ∧ w.cell? ⟨b, o + k * 5, none⟩ = some (.string d.name) ∧ w.cell? ⟨b, o + k * 5 + 1, none⟩ = some (.int .i64 d.how) ∧ w.cell? ⟨b, o + k * 5 + 2, none⟩ = some (.int .i64 d.v.ty) ∧ w.cell? ⟨b, o + k * 5 + 3, none⟩ = some (.int .i64 d.v.n) ∧ w.cell? ⟨b, o + k * 5 + 4, none⟩ = some (.string d.v.s) := by
  obtain ⟨b, o, hA, hall⟩ := tst_all h (len_pos hk)
  exact ⟨b, o, hA, hall k d hk⟩
theorem stp_all {l : List Stp} (h : Sl stpL w (.slice A n c) l) (hn : 0 < l.length) :
    ∃ b o, A = some ⟨b, o, none⟩ ∧ ∀ k d, l[k]? = some d → ∃ u, Sm d.bond ∧ Sm d.kind ∧ Sl tstL w u d.tests ∧ w.cell? ⟨b, o + k * 4, none⟩ = some (.string d.bond) ∧ w.cell? ⟨b, o + k * 4 + 1, none⟩ = some (.bool d.back) ∧ w.cell? ⟨b, o + k * 4 + 2, none⟩ = some (.string d.kind) ∧ w.cell? ⟨b, o + k * 4 + 3, none⟩ = some u := by
  obtain ⟨b, o, hA, hall⟩ := h.all hn
  refine ⟨b, o, hA, fun k d hk => ?_⟩
  obtain ⟨cs, ⟨u, rfl, e1, e2, ok⟩, hx⟩ := hall k d hk
  exact ⟨u, e1, e2, ok, hx 0 _ rfl, hx 1 _ rfl, hx 2 _ rfl, hx 3 _ rfl⟩
theorem stp_at {l : List Stp} (h : Sl stpL w (.slice A n c) l) {d : Stp} (hk : l[k]? = some d) :
    ∃ b o, A = some ⟨b, o, none⟩ ∧ ∃ u, Sm d.bond ∧ Sm d.kind ∧ Sl tstL w u d.tests ∧ w.cell? ⟨b, o + k * 4, none⟩ = some (.string d.bond) ∧ w.cell? ⟨b, o + k * 4 + 1, none⟩ = some (.bool d.back) ∧ w.cell? ⟨b, o + k * 4 + 2, none⟩ = some (.string d.kind) ∧ w.cell? ⟨b, o + k * 4 + 3, none⟩ = some u := by
  obtain ⟨b, o, hA, hall⟩ := stp_all h (len_pos hk)
  exact ⟨b, o, hA, hall k d hk⟩
end

theorem valq_same (d : Nat) (x y : Val) (w : World) : (Op.equalIn (d + 2) 38 (.agg #[.int .i64 x.ty, .int .i64 x.n, .string x.s]) (.agg #[.int .i64 y.ty, .int .i64 y.n, .string y.s])).run Tryd.prog w = .ok (decide (x = y)) w := by
  have hS : Tryd.prog.underlying 38 = some (.struct (Tryd.prog.fieldsOf 38)) := by kernel_rfl
  have hp : Tryd.prog.stoodInHeld 38 = false := by kernel_rfl
  have e1 := Tryd.underlying9
  have e2 := Tryd.underlying3
  rw [run_equalIn_agg w (d + 1) 38 _ _ hS hp]
  simp only [Program.fieldsOf, Tryd.underlying38]
  go_simp
  simp only [bytes_eq]
  cases x; cases y
  simp only [Val.mk.injEq]
  rename_i a b c a' b' c'
  by_cases h1 : a = a' <;> by_cases h2 : b = b' <;> by_cases h3 : c = c' <;> simp [h1, h2, h3]
theorem valq_neq (x y : Val) (w : World) : (binOp .neq 38 (.agg #[.int .i64 x.ty, .int .i64 x.n, .string x.s]) (.agg #[.int .i64 y.ty, .int .i64 y.n, .string y.s])).run Tryd.prog w = .ok (.bool (!decide (x = y))) w := by
  rw [run_neq_struct, show (10000 : Nat) = 9998 + 2 from rfl, valq_same]; rfl
theorem valq_guard (op : BinOp) (a b : Operand) (xs ys : Array Value) (w : World) : (eqGuard op 38 a b (.agg xs) (.agg ys)).run Tryd.prog w = .ok () w := run_eqGuard_agg w op 38 a b xs ys (by kernel_rfl)
theorem tst_bad {t : Tst} (h : nameE t.name ≠ 0) : tstE t = nameE t.name := by unfold tstE; rw [if_pos h]
theorem tst_how {t : Tst} (h : nameE t.name = 0) (h1 : t.how < 1 ∨ 4 < t.how) : tstE t = 1 := by unfold tstE; rw [if_neg (fun e => e h), if_pos h1]
theorem tst_has {t : Tst} (h : nameE t.name = 0) (h2 : t.how = 4) : tstE t = if t.v = zVal then 0 else 3 := by unfold tstE; rw [if_neg (fun e => e h), if_neg (by omega), if_pos h2]
theorem tst_val {t : Tst} (h : nameE t.name = 0) (h1 : ¬ (t.how < 1 ∨ 4 < t.how)) (h2 : t.how ≠ 4) : tstE t = valE t.v := by unfold tstE; rw [if_neg (fun e => e h), if_neg h1, if_neg h2]
theorem valz_neq (x : Val) (w : World) : (binOp .neq 38 (.agg #[.int .i64 x.ty, .int .i64 x.n, .string x.s]) (.agg #[.int .i64 0, .int .i64 0, .string ⟨#[]⟩])).run Tryd.prog w = .ok (.bool (!decide (x = zVal))) w := valq_neq x zVal w
theorem valz_neq2 (x : Val) (w : World) : (binOp .neq 38 (.agg #[.int .i64 x.ty, .int .i64 x.n, .string x.s]) (.agg #[.int .i64 0, .int .i64 0, .string .empty])).run Tryd.prog w = .ok (.bool (!decide (x = zVal))) w := valq_neq x zVal w
set_option maxRecDepth 100000 in
set_option maxHeartbeats 4000000 in
theorem tplain_any (t : Tst) (ht : t.ok) (w : World) :
    Calls Tryd.prog 27 #[.agg #[.string t.name, .int .i64 t.how, .int .i64 t.v.ty, .int .i64 t.v.n, .string t.v.s]] w fun e w' => e = .returned (errV (tstE t)) ∧ Below w.heap.size w w' := by
  have hb0 : Below w.heap.size w (w.alloc (.cells #[.string t.name, .int .i64 t.how, .int .i64 t.v.ty, .int .i64 t.v.n, .string t.v.s] 40)) := (Below.refl _ _).alloc (Nat.le_refl _) _
  have HBK := Lib.hid (heap_alloc_new w (.cells #[.string t.name, .int .i64 t.how, .int .i64 t.v.ty, .int .i64 t.v.n, .string t.v.s] 40))
  have z0 := block_cell HBK.out 0
  have hx := name_any t.name (w.alloc (.cells #[.string t.name, .int .i64 t.how, .int .i64 t.v.ty, .int .i64 t.v.n, .string t.v.s] 40)) ht.1
  have HT1 := Lib.hid (tst_bad (t := t))
  have HT2 := Lib.hid (tst_how (t := t))
  have HT3 := Lib.hid (tst_has (t := t))
  have HT4 := Lib.hid (tst_val (t := t))
  have HVC := Lib.hid (fun wx => check_any t.v ht.2.2 wx)
  have hneq := valz_neq t.v
  have hneq2 := valz_neq2 t.v
  obtain ⟨tn, th, tv⟩ := t
  obtain ⟨tt, tm, ts⟩ := tv
  obtain ⟨TE, hTE⟩ : ∃ TE, TE = tstE ⟨tn, th, ⟨tt, tm, ts⟩⟩ := ⟨_, rfl⟩
  rw [← hTE] at HT1 HT2 HT3 HT4
  rw [← hTE]
  clear hTE
  obtain ⟨VQ, hVQ⟩ : ∃ VQ, VQ = decide ((⟨tt, tm, ts⟩ : Val) = zVal) := ⟨_, rfl⟩
  have HVQ := Lib.hid hVQ
  simp only at hneq hneq2 z0 hx HT1 HT2 HT3 HT4 HVC HBK
  rw [← hVQ] at hneq hneq2
  clear hVQ
  go_enter Tryd.func27, Tryd.ntmps27
  go_upto_region 1 with fail
  generalize w.alloc (.cells #[.string tn, .int .i64 th, .int .i64 tt, .int .i64 tm, .string ts] 40) = W0 at *
  generalize nameE tn = ne at *
  go_wp2_with fail
  refine hx.mono ?_
  clear hx z0
  rintro e w1 ⟨rfl, hb1⟩
  have hB1 := hb0.trans (hb1.mono hb0.size)
  have HBK := Lib.hid ((hb1.block _ (Array.getElem?_eq_some_iff.1 HBK.out).1).trans HBK.out)
  by_cases hz : ne = 0
  case neg =>
    have E1 := Lib.hid (HT1.out hz)
    have HER := Lib.hid (errV_some hz)
    rw [errV_some hz]
    clear hz HT1 HT2 HT3 HT4
    go_wp2_with fail
    go_ret
    exact ⟨by rw [E1.out, HER.out]; rfl, hB1⟩
  rw [errV_zero hz]
  have HT2 := Lib.hid (HT2.out hz)
  have HT3 := Lib.hid (HT3.out hz)
  have HT4 := Lib.hid (HT4.out hz)
  have z1 := block_cell HBK.out 1
  have z2 := block_cell HBK.out 2
  have z3 := block_cell HBK.out 3
  have z4 := block_cell HBK.out 4
  clear hz HT1
  by_cases h1 : th < 1
  · have E1 := Lib.hid (HT2.out (.inl h1))
    clear HT2 HT3 HT4
    go_wp2_with fail
    go_ret
    exact ⟨by rw [E1.out]; rfl, hB1⟩
  by_cases h4 : 4 < th
  · have E1 := Lib.hid (HT2.out (.inr h4))
    clear HT2 HT3 HT4
    go_wp2_with fail
    go_ret
    exact ⟨by rw [E1.out]; rfl, hB1⟩
  have hd1 : decide (th < 1) = false := decide_eq_false h1
  have hd4 : decide (4 < th) = false := decide_eq_false h4
  by_cases he : th = 4
  · have heb : (th == 4) = true := by simpa using he
    have E1 := Lib.hid (HT3.out he)
    have hgd := valq_guard
    cases VQ with
    | true =>
      have E2 : Hid (TE = 0) := by unfold Hid; rw [E1.out, if_pos (of_decide_eq_true HVQ.out.symm)]
      clear HT2 HT3 HT4 E1 he
      go_wp2_with fail
      go_ret
      exact ⟨by rw [E2.out]; rfl, hB1⟩
    | false =>
      have E2 : Hid (TE = 3) := by unfold Hid; rw [E1.out, if_neg (of_decide_eq_false HVQ.out.symm)]
      clear HT2 HT3 HT4 E1 he
      go_wp2_with fail
      go_ret
      exact ⟨by rw [E2.out]; rfl, hB1⟩
  · have heb : (th == 4) = false := by simpa using he
    have E1 := Lib.hid (HT4.out (fun h => by omega) he)
    have hx := HVC.out w1
    generalize valE _ = ve at *
    clear HT2 HT3 HT4
    go_wp2_with fail
    refine hx.mono ?_
    clear hx
    rintro e w2 ⟨rfl, hb2⟩
    go_wp2_with fail
    go_ret
    exact ⟨by rw [E1.out]; rfl, hB1.trans (hb2.mono hB1.size)⟩



theorem nil_empty (s : ByteArray) : (s.toList = []) = (s = .empty) := by
  rw [← bytes_eq s .empty, show (ByteArray.empty).toList = [] by decide +kernel]
theorem stp_kind {b : Bool} {x : Stp} (h : nameE x.kind ≠ 0) : stpE b x = nameE x.kind := by unfold stpE; rw [if_pos h]
theorem stp_first {x : Stp} (h : nameE x.kind = 0) (h2 : x.bond ≠ .empty ∨ x.back = true) : stpE true x = 3 := by unfold stpE; rw [if_neg (fun e => e h), if_pos rfl, if_pos h2]
theorem stp_bond {x : Stp} (h : nameE x.kind = 0) (h2 : nameE x.bond ≠ 0) : stpE false x = nameE x.bond := by unfold stpE; rw [if_neg (fun e => e h), if_neg (by decide), if_pos h2]
theorem stp_rest {b : Bool} {x : Stp} (h : nameE x.kind = 0) (h2 : b = true → x.bond = .empty ∧ x.back = false) (h3 : b = false → nameE x.bond = 0) : stpE b x = if 8 < x.tests.length then 4 else firstE tstE x.tests := by
  unfold stpE
  rw [if_neg (fun e => e h)]
  cases b with
  | true =>
    obtain ⟨e1, e2⟩ := h2 rfl
    rw [if_pos rfl, if_neg (fun e => by rcases e with e | e; exact e e1; rw [e2] at e; cases e)]
  | false => rw [if_neg (by decide), if_neg (fun e => e (h3 rfl))]
set_option maxRecDepth 100000 in
set_option maxHeartbeats 4000000 in
theorem aplain_any (x : Stp) (fst : Bool) (u : Value) (w : World) (h1 : Sm x.bond) (h2 : Sm x.kind) (h3 : Sl tstL w u x.tests) :
    Calls Tryd.prog 18 #[.agg #[.string x.bond, .bool x.back, .string x.kind, u], .bool fst] w fun e w' => e = .returned (errV (stpE fst x)) ∧ Below w.heap.size w w' := by
  obtain ⟨A, c, rfl, hlc, hcm⟩ := h3.form
  unfold maxLen at hcm
  have HT0 := Lib.hid h3
  clear h3
  have hb0 : Below w.heap.size w (w.alloc (.cells #[.string x.bond, .bool x.back, .string x.kind, .slice A x.tests.length c] 30)) := (Below.refl _ _).alloc (Nat.le_refl _) _
  have HBK := Lib.hid (heap_alloc_new w (.cells #[.string x.bond, .bool x.back, .string x.kind, .slice A x.tests.length c] 30))
  have z2 := block_cell HBK.out 2
  have hx := name_any x.kind (w.alloc (.cells #[.string x.bond, .bool x.back, .string x.kind, .slice A x.tests.length c] 30)) h2
  have hnb : Hid (∀ wx, _) := fun wx => name_any x.bond wx h1
  have S1 := Lib.hid (stp_kind (b := fst) (x := x))
  have S2 := Lib.hid (stp_first (x := x))
  have S3 := Lib.hid (stp_bond (x := x))
  have S4 := Lib.hid (stp_rest (b := fst) (x := x))
  have HNIL : Hid ((x.bond.toList = []) = (x.bond = .empty)) := nil_empty x.bond
  go_enter Tryd.func18, Tryd.ntmps18
  go_upto_region 1 with fail
  generalize w.alloc (.cells #[.string x.bond, .bool x.back, .string x.kind, .slice A x.tests.length c] 30) = W0 at *
  generalize nameE x.kind = ne at *
  go_wp2_with fail
  refine hx.mono ?_
  clear hx z2
  rintro e w1 ⟨rfl, hb1⟩
  have hB1 := hb0.trans (hb1.mono hb0.size)
  have HBK := Lib.hid ((hb1.block _ (Array.getElem?_eq_some_iff.1 HBK.out).1).trans HBK.out)
  by_cases hz : ne = 0
  case neg =>
    have E1 := Lib.hid (S1.out hz)
    have HER := Lib.hid (errV_some hz)
    rw [errV_some hz]
    clear hz S1 S2 S3 S4
    go_wp2_with fail
    go_ret
    exact ⟨by rw [E1.out, HER.out]; rfl, hB1⟩
  rw [errV_zero hz]
  have S2 := Lib.hid (S2.out hz)
  have S3 := Lib.hid (S3.out hz)
  have S4 := Lib.hid (S4.out hz)
  have z0 := block_cell HBK.out 0
  have z1 := block_cell HBK.out 1
  clear hz S1
  have HB1 := Lib.hid hB1
  go_upto_region 4 with fail
  obtain ⟨QQ, hQQ⟩ : ∃ QQ, QQ = (fst && (!decide (x.bond = .empty) || x.back)) := ⟨_, rfl⟩
  -- a cut: the mask [.k, .k, .k, .k, .k, .k, .k, .k, .k, .k, .k, .k, .k, .k, .k, .k, .y 16, .y 17, .y 18, .y 19, .y 20, .y 21, .y 22, .y 23, .y 24, .a, .k, .k, .k, .k, .k, .k, .k, .k, .k, .k, .k, .k, .k, .k, .k, .k, .k, .k, .k, .k, .k, .k, .k, .k, .k, .k, .k], the slots 25 0 0 0, the relation fun v _ _ _ wx => v = .bool QQ ∧ wx = w1
  apply wp_cutm [.k, .k, .k, .k, .k, .k, .k, .k, .k, .k, .k, .k, .k, .k, .k, .k, .y 16, .y 17, .y 18, .y 19, .y 20, .y 21, .y 22, .y 23, .y 24, .a, .k, .k, .k, .k, .k, .k, .k, .k, .k, .k, .k, .k, .k, .k, .k, .k, .k, .k, .k, .k, .k, .k, .k, .k, .k, .k, .k] 25 0 0 0 (by decide +kernel) (fun v _ _ _ wx => v = .bool QQ ∧ wx = w1)
  case first =>
    -- within a cut
    intro JJ KK hmeet hnext
    have HQQ := Lib.hid hQQ
    clear hQQ
    cases fst with
    | false =>
      go_wp2_with fail
      -- a way's end
      refine Met.intro ?_
      go_step
      refine Forgot.at _ _ _ _ _ rfl rfl rfl rfl rfl rfl ?_
      exact ⟨by rw [HQQ.out]; rfl, rfl⟩
    | true =>
      by_cases hb : x.bond = .empty
      · have HB := Lib.hid (decide_eq_true hb)
        have d1 : x.bond.toList = [] := by rw [HNIL.out]; exact hb
        have d2 : (x.bond.toList == []) = true := by rw [d1]; rfl
        have d3 : (x.bond.toList != []) = false := by rw [d1]; rfl
        have d4 : x.bond.toList.isEmpty = true := by rw [d1]; rfl
        clear hb
        go_wp2_with fail
        -- a way's end
        refine Met.intro ?_
        go_step
        refine Forgot.at _ _ _ _ _ rfl rfl rfl rfl rfl rfl ?_
        exact ⟨by rw [HQQ.out, HB.out]; rfl, rfl⟩
      · have HB := Lib.hid (decide_eq_false hb)
        have d1 : ¬ x.bond.toList = [] := by rw [HNIL.out]; exact hb
        have d2 : (x.bond.toList == []) = false := beq_eq_false_iff_ne.2 d1
        have d3 : (x.bond.toList != []) = true := bne_iff_ne.2 d1
        have d4 : x.bond.toList.isEmpty = false := List.isEmpty_eq_false_iff.2 d1
        clear hb
        go_wp2_with fail
        -- a way's end
        refine Met.intro ?_
        go_step
        refine Forgot.at _ _ _ _ _ rfl rfl rfl rfl rfl rfl ?_
        exact ⟨by rw [HQQ.out, HB.out]; rfl, rfl⟩
  case rest =>
  -- behind a cut: the names of the slots' values u25 _ _ _ (four)
  intro ff u25 _ _ _ wc hcut
  dsimp only [spread]
  obtain ⟨rfl, hw⟩ := hcut
  obtain ⟨w2, hw2⟩ : ∃ y : World, y = wc := ⟨_, rfl⟩
  subst hw2
  rw [← hw] at HB1 HBK z0 z1
  clear hw hB1
  cases QQ with
  | true =>
    have E1 : Hid (stpE fst x = 3) := by
      unfold Hid
      cases fst with
      | false => cases hQQ
      | true => exact S2.out (by
          by_cases hb : x.bond = .empty
          · rw [decide_eq_true hb] at hQQ; exact .inr hQQ.symm
          · exact .inl hb)
    clear hQQ S2 S3 S4 HNIL
    go_wp2_with fail
    go_ret
    exact ⟨by rw [E1.out]; rfl, HB1.out⟩
  | false =>
  have HQ : Hid (fst = true → x.bond = .empty ∧ x.back = false) := fun h => by
    rw [h] at hQQ
    by_cases hb : x.bond = .empty
    · rw [decide_eq_true hb] at hQQ; exact ⟨hb, hQQ.symm⟩
    · rw [decide_eq_false hb] at hQQ; cases hQQ
  clear hQQ S2 HNIL
  go_upto_if 28 with fail
  -- a cut: the mask [.k, .k, .k, .k, .y 4, .k, .y 6, .k, .k, .k, .k, .k, .k, .k, .k, .k, .k, .k, .k, .k, .k, .k, .k, .k, .k, .k, .k, .k, .y 28, .y 29, .y 30, .y 31, .y 32, .y 33, .y 34, .k, .k, .k, .k, .k, .k, .k, .k, .k, .k, .k, .k, .k, .k, .k, .k, .k, .k], the slots 0 0 0 0, the relation fun _ _ _ _ wx => Hid (Below w.heap.size w wx) ∧ Hid (stpE fst x = if 8 < x.tests.length then 4 else firstE tstE x.tests) ∧ Hid (∃ o, wx.heap[w.heap.size]? = some o ∧ o = .cells #[.string x.bond, .bool x.back, .string x.kind, .slice A x.tests.length c] 30 (0, 0))
  apply wp_cutm [.k, .k, .k, .k, .y 4, .k, .y 6, .k, .k, .k, .k, .k, .k, .k, .k, .k, .k, .k, .k, .k, .k, .k, .k, .k, .k, .k, .k, .k, .y 28, .y 29, .y 30, .y 31, .y 32, .y 33, .y 34, .k, .k, .k, .k, .k, .k, .k, .k, .k, .k, .k, .k, .k, .k, .k, .k, .k, .k] 0 0 0 0 (by decide +kernel) (fun _ _ _ _ wx => Hid (Below w.heap.size w wx) ∧ Hid (stpE fst x = if 8 < x.tests.length then 4 else firstE tstE x.tests) ∧ Hid (∃ o, wx.heap[w.heap.size]? = some o ∧ o = .cells #[.string x.bond, .bool x.back, .string x.kind, .slice A x.tests.length c] 30 (0, 0)))
  case first =>
    -- within a cut
    intro JJ KK hmeet hnext
    cases fst with
    | true =>
      have E1 := Lib.hid (S4.out HQ.out (fun h => by cases h))
      clear S3 S4
      go_wp2_with fail
      -- a way's end
      refine Met.intro ?_
      go_step
      refine Forgot.at _ _ _ _ _ rfl rfl rfl rfl rfl rfl ?_
      exact ⟨HB1, E1, ⟨_, HBK.out, rfl⟩⟩
    | false =>
      have hx := hnb.out w2
      have S3 := Lib.hid S3.out
      generalize nameE x.bond = nb at *
      go_wp2_with fail
      refine hx.mono ?_
      clear hx z0 z1
      rintro e w3 ⟨rfl, hb3⟩
      have HB3 := Lib.hid (HB1.out.trans (hb3.mono HB1.out.size))
      have HBK3 := Lib.hid ((hb3.block _ (Array.getElem?_eq_some_iff.1 HBK.out).1).trans HBK.out)
      by_cases hz : nb = 0
      · have E1 := Lib.hid (S4.out HQ.out (fun _ => hz))
        rw [errV_zero hz]
        clear hz S3 S4
        go_wp2_with fail
        -- a way's end
        refine Met.intro ?_
        go_step
        refine Forgot.at _ _ _ _ _ rfl rfl rfl rfl rfl rfl ?_
        exact ⟨HB3, E1, ⟨_, HBK3.out, rfl⟩⟩
      · have E1 := Lib.hid (S3.out hz)
        have HER := Lib.hid (errV_some hz)
        rw [errV_some hz]
        clear hz S3 S4
        -- the region 9 and the return behind it; what the return passes: Exit.then ('Exit.inBlock, Exit.then' out of a loop, 'Exit.then' out of an if)
        go_upto_region 9 with fail
        -- of what is to be done behind only the innermost is kept
        rename ∀ (a : Act) (w : World), Code.wp _ _ _ a w → _ => hkeep
        revert hkeep
        repeat (rename ∀ (a : Act) (w : World), Code.wp _ _ _ a w → _ => hz; clear hz)
        intro hkeep
        have HKE := Lib.hid hkeep
        clear hkeep
        go_wp2_with fail
        refine HKE.out _ _ (wp_ret ?_)
        try simp (config := { zetaDelta := true }) only [Exit.then]
        go_ret
        exact ⟨by rw [E1.out, HER.out]; rfl, HB3.out⟩
  case rest =>
  -- behind a cut: the names of the slots' values _ _ _ _ (four)
  intro ff _ _ _ _ wc hcut
  dsimp only [spread]
  clear HB1 HBK S3 S4 z0 z1
  obtain ⟨w3, hw3⟩ : ∃ y : World, y = wc := ⟨_, rfl⟩
  subst hw3
  obtain ⟨HB3, HE, HBK⟩ := hcut
  have HBK : Hid (w3.heap[w.heap.size]? = some (.cells #[.string x.bond, .bool x.back, .string x.kind, .slice A x.tests.length c] 30 (0, 0))) := by obtain ⟨o, h1, h2⟩ := HBK.out; rw [h1, h2]; rfl
  have z3 := block_cell HBK.out 3
  by_cases h8 : 8 < x.tests.length
  · have E1 : Hid (stpE fst x = 4) := by unfold Hid; rw [HE.out, if_pos h8]
    have h8' : (8 : Int) < (x.tests.length : Int) := by omega
    clear HE
    go_wp2_with fail
    go_ret
    exact ⟨by rw [E1.out]; rfl, HB3.out⟩
  have HE : Hid (stpE fst x = firstE tstE x.tests) := by unfold Hid; rw [HE.out, if_neg h8]
  have h8' : decide ((8 : Int) < (x.tests.length : Int)) = false := by simp; omega
  have h8'' : (x.tests.length : Int) ≤ 8 := by omega
  go_wp2_with fail
  -- a loop: the mask [.k, .k, .k, .k, .y 4, .k, .k, .k, .y 8, .y 9, .k, .k, .k, .k, .k, .k, .k, .k, .k, .k, .k, .k, .k, .k, .k, .k, .k, .k, .k, .k, .k, .k, .k, .k, .k, .k, .k, .k, .k, .k, .k, .k, .k, .a, .y 44, .y 45, .y 46, .y 47, .y 48, .y 49, .y 50, .y 51, .y 52], the slots 43 0 0 0, the relation fun i _ _ _ wr => ∃ k : Nat, k ≤ x.tests.length ∧ i = .int .i64 k ∧ Hid (Below w.heap.size w wr) ∧ Hid (∀ j y, j < k → x.tests[j]? = some y → tstE y = 0), the measure fun i _ _ _ _ => x.tests.length - (intOf i).toNat
  apply wp_loopm [.k, .k, .k, .k, .y 4, .k, .k, .k, .y 8, .y 9, .k, .k, .k, .k, .k, .k, .k, .k, .k, .k, .k, .k, .k, .k, .k, .k, .k, .k, .k, .k, .k, .k, .k, .k, .k, .k, .k, .k, .k, .k, .k, .k, .k, .a, .y 44, .y 45, .y 46, .y 47, .y 48, .y 49, .y 50, .y 51, .y 52] 43 0 0 0 (by decide +kernel) rfl (fun i _ _ _ wr => ∃ k : Nat, k ≤ x.tests.length ∧ i = .int .i64 k ∧ Hid (Below w.heap.size w wr) ∧ Hid (∀ j y, j < k → x.tests[j]? = some y → tstE y = 0)) (fun i _ _ _ _ => x.tests.length - (intOf i).toNat) _ _ _ _ rfl rfl rfl rfl
  case start => exact ⟨0, Nat.zero_le _, rfl, HB3, fun j y hj => absurd hj (Nat.not_lt_zero _)⟩
  case round =>
    -- a round: the names u43 _ _ _ (four), the world's name
    intro ff u43 _ _ _ wr hrel
    dsimp only [spread]
    clear HB3 HBK z3
    obtain ⟨k, hk, rfl, HB, HA⟩ := hrel
    obtain ⟨wo, hwo⟩ : ∃ y : World, y = wr := ⟨_, rfl⟩
    subst hwo
    by_cases hlt : k < x.tests.length
    · obtain ⟨d, hd⟩ : ∃ d, x.tests[k]? = some d := ⟨_, List.getElem?_eq_getElem hlt⟩
      obtain ⟨b, o, rfl, hok, x0, x1, x2, x3, x4⟩ := tst_at (HT0.out.below HB.out) hd
      have HD := Lib.hid hd
      have hlt' : (k : Int) < (x.tests.length : Int) := by omega
      have hB2 := HB.out.alloc HB.out.size (.cells #[.string d.name, .int .i64 d.how, .int .i64 d.v.ty, .int .i64 d.v.n, .string d.v.s] 40)
      have hx := tplain_any d hok (wo.alloc (.cells #[.string d.name, .int .i64 d.how, .int .i64 d.v.ty, .int .i64 d.v.n, .string d.v.s] 40))
      have hbk := heap_alloc_new wo (.cells #[.string d.name, .int .i64 d.how, .int .i64 d.v.ty, .int .i64 d.v.n, .string d.v.s] 40)
      obtain ⟨te, hte⟩ : ∃ te, te = tstE d := ⟨_, rfl⟩
      have HTE := Lib.hid hte
      rw [← hte] at hx
      clear hd hte hok
      go_upto_region 15 with fail
      clear x0 x1 x2 x3 x4
      generalize wo.alloc (.cells #[.string d.name, .int .i64 d.how, .int .i64 d.v.ty, .int .i64 d.v.n, .string d.v.s] 40) = w4 at *
      have y0 := block_cell hbk 0
      have y1 := block_cell hbk 1
      have y2 := block_cell hbk 2
      have y3 := block_cell hbk 3
      have y4 := block_cell hbk 4
      go_wp2_with fail
      refine hx.mono ?_
      clear hx y0 y1 y2 y3 y4 hbk
      rintro e w5 ⟨rfl, hb5⟩
      have HB5 := Lib.hid (hB2.trans (hb5.mono hB2.size))
      clear hB2 hb5
      by_cases hz : te = 0
      · have HZ := Lib.hid hz
        rw [errV_zero hz]
        clear hz
        go_wp2_with fail
        -- a round's end: the relation, the measure
        apply Rounded.at _ _ _ _ _ rfl rfl rfl rfl rfl rfl
        case rel => exact ⟨k + 1, by omega, by go_num, HB5, zero_step HA.out HD.out (by rw [← HTE.out]; exact HZ.out)⟩
        case measure => simp [intOf]; omega
      · have E1 : Hid (stpE fst x = te) := by
          unfold Hid; rw [HE.out, firstE_hit HA.out HD.out (by rw [← HTE.out]; exact hz), HTE.out]
        have HER := Lib.hid (errV_some hz)
        rw [errV_some hz]
        clear hz
        go_wp2_with fail
        go_ret
        exact ⟨by rw [E1.out, HER.out]; rfl, HB5.out⟩
    · obtain rfl : k = x.tests.length := by omega
      have E1 : Hid (stpE fst x = 0) := by unfold Hid; rw [HE.out, firstE_none HA.out]
      clear hlt
      go_wp2_with fail
      go_ret
      exact ⟨by rw [E1.out]; rfl, HB.out⟩
end Go.Proofs.YtakidgndipnciaaDoor
