/- Parts: AwA. -/
import Derived.Test.YtakidgndipnciaaDoorMg09
import Derived.Test.YtakidgndipnciaaDoorMg03
import Derived.Test.YtakidgndipnciaaDoorMg06
import Derived.Deep.DeepCutAuto
/- Contract: path.Plain: what is wrong with a test by itself. Condition: the test's texts are not too long. -/
namespace Go.Proofs.YtakidgndipnciaaDoor
open Go Go.RowKit

theorem valq_same (d : Nat) (x y : Val) (w : World) : (Op.equalIn (d + 2) 38 (.agg #[.int .i64 x.ty, .int .i64 x.n, .string x.s]) (.agg #[.int .i64 y.ty, .int .i64 y.n, .string y.s])).run Tryd.prog w = .ok (decide (x = y)) w := by
  have hS : Tryd.prog.underlying 38 = some (.struct (Tryd.prog.fieldsOf 38)) := by kernel_rfl
  have hp : Tryd.prog.stoodInHeld 38 = false := by kernel_rfl
  have e1 := Tryd.underlying9
  have e2 := Tryd.underlying3
  rw [run_equalIn_agg w (d + 1) 38 _ _ hS hp]
  simp only [Program.fieldsOf, Tryd.underlying38]
  go_simp
  simp only [bytes_eq]
  cases x; cases y
  simp only [Val.mk.injEq]
  rename_i a b c a' b' c'
  by_cases h1 : a = a' <;> by_cases h2 : b = b' <;> by_cases h3 : c = c' <;> simp [h1, h2, h3]
theorem valq_neq (x y : Val) (w : World) : (binOp .neq 38 (.agg #[.int .i64 x.ty, .int .i64 x.n, .string x.s]) (.agg #[.int .i64 y.ty, .int .i64 y.n, .string y.s])).run Tryd.prog w = .ok (.bool (!decide (x = y))) w := by
  rw [run_neq_struct, show (10000 : Nat) = 9998 + 2 from rfl, valq_same]; rfl
theorem valq_guard (op : BinOp) (a b : Operand) (xs ys : Array Value) (w : World) : (eqGuard op 38 a b (.agg xs) (.agg ys)).run Tryd.prog w = .ok () w := run_eqGuard_agg w op 38 a b xs ys (by kernel_rfl)
theorem tst_bad {t : Tst} (h : nameE t.name ≠ 0) : tstE t = nameE t.name := by unfold tstE; rw [if_pos h]
theorem tst_how {t : Tst} (h : nameE t.name = 0) (h1 : t.how < 1 ∨ 4 < t.how) : tstE t = 1 := by unfold tstE; rw [if_neg (fun e => e h), if_pos h1]
theorem tst_has {t : Tst} (h : nameE t.name = 0) (h2 : t.how = 4) : tstE t = if t.v = zVal then 0 else 3 := by unfold tstE; rw [if_neg (fun e => e h), if_neg (by omega), if_pos h2]
theorem tst_val {t : Tst} (h : nameE t.name = 0) (h1 : ¬ (t.how < 1 ∨ 4 < t.how)) (h2 : t.how ≠ 4) : tstE t = valE t.v := by unfold tstE; rw [if_neg (fun e => e h), if_neg h1, if_neg h2]
theorem valz_neq (x : Val) (w : World) : (binOp .neq 38 (.agg #[.int .i64 x.ty, .int .i64 x.n, .string x.s]) (.agg #[.int .i64 0, .int .i64 0, .string ⟨#[]⟩])).run Tryd.prog w = .ok (.bool (!decide (x = zVal))) w := valq_neq x zVal w
theorem valz_neq2 (x : Val) (w : World) : (binOp .neq 38 (.agg #[.int .i64 x.ty, .int .i64 x.n, .string x.s]) (.agg #[.int .i64 0, .int .i64 0, .string .empty])).run Tryd.prog w = .ok (.bool (!decide (x = zVal))) w := valq_neq x zVal w
set_option maxRecDepth 100000 in
set_option maxHeartbeats 4000000 in
theorem tplain_any (t : Tst) (ht : t.ok) (w : World) :
    Calls Tryd.prog 27 #[.agg #[.string t.name, .int .i64 t.how, .int .i64 t.v.ty, .int .i64 t.v.n, .string t.v.s]] w fun e w' => e = .returned (errV (tstE t)) ∧ Below w.heap.size w w' := by
  have hb0 : Below w.heap.size w (w.alloc (.cells #[.string t.name, .int .i64 t.how, .int .i64 t.v.ty, .int .i64 t.v.n, .string t.v.s] 40)) := (Below.refl _ _).alloc (Nat.le_refl _) _
  have HBK := Lib.hid (heap_alloc_new w (.cells #[.string t.name, .int .i64 t.how, .int .i64 t.v.ty, .int .i64 t.v.n, .string t.v.s] 40))
  have z0 := block_cell HBK.out 0
  have hx := name_any t.name (w.alloc (.cells #[.string t.name, .int .i64 t.how, .int .i64 t.v.ty, .int .i64 t.v.n, .string t.v.s] 40)) ht.1
  have HT1 := Lib.hid (tst_bad (t := t))
  have HT2 := Lib.hid (tst_how (t := t))
  have HT3 := Lib.hid (tst_has (t := t))
  have HT4 := Lib.hid (tst_val (t := t))
  have HVC := Lib.hid (fun wx => check_any t.v ht.2.2 wx)
  have hneq := valz_neq t.v
  have hneq2 := valz_neq2 t.v
  obtain ⟨tn, th, tv⟩ := t
  obtain ⟨tt, tm, ts⟩ := tv
  obtain ⟨TE, hTE⟩ : ∃ TE, TE = tstE ⟨tn, th, ⟨tt, tm, ts⟩⟩ := ⟨_, rfl⟩
  rw [← hTE] at HT1 HT2 HT3 HT4
  rw [← hTE]
  clear hTE
  obtain ⟨VQ, hVQ⟩ : ∃ VQ, VQ = decide ((⟨tt, tm, ts⟩ : Val) = zVal) := ⟨_, rfl⟩
  have HVQ := Lib.hid hVQ
  simp only at hneq hneq2 z0 hx HT1 HT2 HT3 HT4 HVC HBK
  rw [← hVQ] at hneq hneq2
  clear hVQ
  go_enter Tryd.func27, Tryd.ntmps27
  go_upto_region 1 with fail
  generalize w.alloc (.cells #[.string tn, .int .i64 th, .int .i64 tt, .int .i64 tm, .string ts] 40) = W0 at *
  generalize nameE tn = ne at *
  go_wp2_with fail
  refine hx.mono ?_
  clear hx z0
  rintro e w1 ⟨rfl, hb1⟩
  have hB1 := hb0.trans (hb1.mono hb0.size)
  have HBK := Lib.hid ((hb1.block _ (Array.getElem?_eq_some_iff.1 HBK.out).1).trans HBK.out)
  by_cases hz : ne = 0
  case neg =>
    have E1 := Lib.hid (HT1.out hz)
    have HER := Lib.hid (errV_some hz)
    rw [errV_some hz]
    clear hz HT1 HT2 HT3 HT4
    go_wp2_with fail
    go_ret
    exact ⟨by rw [E1.out, HER.out]; rfl, hB1⟩
  rw [errV_zero hz]
  have HT2 := Lib.hid (HT2.out hz)
  have HT3 := Lib.hid (HT3.out hz)
  have HT4 := Lib.hid (HT4.out hz)
  have z1 := block_cell HBK.out 1
  have z2 := block_cell HBK.out 2
  have z3 := block_cell HBK.out 3
  have z4 := block_cell HBK.out 4
  clear hz HT1
  by_cases h1 : th < 1
  · have E1 := Lib.hid (HT2.out (.inl h1))
    clear HT2 HT3 HT4
    go_wp2_with fail
    go_ret
    exact ⟨by rw [E1.out]; rfl, hB1⟩
  by_cases h4 : 4 < th
  · have E1 := Lib.hid (HT2.out (.inr h4))
    clear HT2 HT3 HT4
    go_wp2_with fail
    go_ret
    exact ⟨by rw [E1.out]; rfl, hB1⟩
  have hd1 : decide (th < 1) = false := decide_eq_false h1
  have hd4 : decide (4 < th) = false := decide_eq_false h4
  by_cases he : th = 4
  · have heb : (th == 4) = true := by simpa using he
    have E1 := Lib.hid (HT3.out he)
    have hgd := valq_guard
    cases VQ with
    | true =>
      have E2 : Hid (TE = 0) := by unfold Hid; rw [E1.out, if_pos (of_decide_eq_true HVQ.out.symm)]
      clear HT2 HT3 HT4 E1 he
      go_wp2_with fail
      go_ret
      exact ⟨by rw [E2.out]; rfl, hB1⟩
    | false =>
      have E2 : Hid (TE = 3) := by unfold Hid; rw [E1.out, if_neg (of_decide_eq_false HVQ.out.symm)]
      clear HT2 HT3 HT4 E1 he
      go_wp2_with fail
      go_ret
      exact ⟨by rw [E2.out]; rfl, hB1⟩
  · have heb : (th == 4) = false := by simpa using he
    have E1 := Lib.hid (HT4.out (fun h => by omega) he)
    have hx := HVC.out w1
    generalize valE _ = ve at *
    clear HT2 HT3 HT4
    go_wp2_with fail
    refine hx.mono ?_
    clear hx
    rintro e w2 ⟨rfl, hb2⟩
    go_wp2_with fail
    go_ret
    exact ⟨by rw [E1.out]; rfl, hB1.trans (hb2.mono hB1.size)⟩
end Go.Proofs.YtakidgndipnciaaDoor
