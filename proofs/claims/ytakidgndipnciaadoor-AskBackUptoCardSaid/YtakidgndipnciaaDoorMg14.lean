/- Parts: AwC. -/
import Derived.Test.YtakidgndipnciaaDoorMg13
/- Contract: ask.Plain: what is wrong with a path by itself. Condition: the path reads as data. -/
namespace Go.Proofs.YtakidgndipnciaaDoor
open Go Go.RowKit



theorem ask_many {l : List Stp} (h0 : ¬ l.length = 0) (h6 : ¬ 6 < l.length) {x : Stp} {r : List Stp} (h : l = x :: r) : askE l = if stpE true x ≠ 0 then stpE true x else firstE (stpE false) r := by
  unfold askE
  rw [if_neg h0, if_neg h6, h]
theorem ask_hit {l : List Stp} {k : Nat} {d : Stp} (h6 : ¬ 6 < l.length) (hA : ∀ j y, j < k → l[j]? = some y → stpE (decide (j = 0)) y = 0) (hd : l[k]? = some d) (hz : stpE (decide (k = 0)) d ≠ 0) : askE l = stpE (decide (k = 0)) d := by
  cases l with
  | nil => simp at hd
  | cons x r =>
    rw [ask_many (by simp) h6 rfl]
    cases k with
    | zero =>
      injection hd with hd
      subst hd
      rw [if_pos (by simpa using hz)]; rfl
    | succ k =>
      have h0 : stpE true x = 0 := hA 0 x (by omega) rfl
      rw [if_neg (fun e => e h0)]
      have := firstE_hit (f := stpE false) (l := r) (k := k) (d := d) (fun j y hj hy => hA (j + 1) y (by omega) (by simpa using hy)) (by simpa using hd) (by simpa using hz)
      rw [this]; rfl
theorem ask_ok {l : List Stp} (h0 : ¬ l.length = 0) (h6 : ¬ 6 < l.length) (hA : ∀ j y, j < l.length → l[j]? = some y → stpE (decide (j = 0)) y = 0) : askE l = 0 := by
  cases l with
  | nil => exact absurd rfl h0
  | cons x r =>
    rw [ask_many (by simp) h6 rfl]
    have h0 : stpE true x = 0 := hA 0 x (by simp) rfl
    rw [if_neg (fun e => e h0)]
    exact firstE_none (fun j y hj hy => hA (j + 1) y (by simpa using hj) (by simpa using hy))
set_option maxRecDepth 100000 in
set_option maxHeartbeats 4000000 in
theorem apath_any (l : List Stp) (v : Value) (w : World) (hl : Sl stpL w v l) :
    Calls Tryd.prog 12 #[v] w fun e w' => e = .returned (errV (askE l)) ∧ Below w.heap.size w w' := by
  obtain ⟨A, c, rfl, hlc, hcm⟩ := hl.form
  unfold maxLen at hcm
  by_cases h0 : l.length = 0
  · have E1 : Hid (askE l = 5) := by unfold Hid; unfold askE; rw [if_pos h0]
    have h0' : ((l.length : Int) == 0) = true := by rw [h0]; rfl
    go_enter Tryd.func12, Tryd.ntmps12
    go_wp2_with fail
    go_ret
    exact ⟨by rw [E1.out]; rfl, Below.refl _ _⟩
  have h0' : ((l.length : Int) == 0) = false := by rw [beq_eq_false_iff_ne]; omega
  by_cases h6 : 6 < l.length
  · have E1 : Hid (askE l = 4) := by unfold Hid; unfold askE; rw [if_neg h0, if_pos h6]
    have h6' : (6 : Int) < (l.length : Int) := by omega
    go_enter Tryd.func12, Tryd.ntmps12
    go_wp2_with fail
    go_ret
    exact ⟨by rw [E1.out]; rfl, Below.refl _ _⟩
  have h6' : decide ((6 : Int) < (l.length : Int)) = false := by simp; omega
  have h6'' : (l.length : Int) ≤ 6 := by omega
  have HL := Lib.hid hl
  have H6 := Lib.hid h6
  have H0 := Lib.hid h0
  clear hl h0 h6
  go_enter Tryd.func12, Tryd.ntmps12
  go_wp2_with fail
  -- a loop: the mask [.k, .k, .y 2, .y 3, .y 4, .y 5, .k, .k, .k, .k, .k, .k, .k, .k, .k, .k, .k, .k, .a, .y 19, .y 20, .y 21, .y 22, .y 23, .y 24, .y 25, .y 26, .y 27, .y 28, .y 29, .y 30], the slots 18 0 0 0, the relation fun i _ _ _ wr => ∃ k : Nat, k ≤ l.length ∧ i = .int .i64 k ∧ Hid (Below w.heap.size w wr) ∧ Hid (∀ j y, j < k → l[j]? = some y → stpE (decide (j = 0)) y = 0), the measure fun i _ _ _ _ => l.length - (intOf i).toNat
  apply wp_loopm [.k, .k, .y 2, .y 3, .y 4, .y 5, .k, .k, .k, .k, .k, .k, .k, .k, .k, .k, .k, .k, .a, .y 19, .y 20, .y 21, .y 22, .y 23, .y 24, .y 25, .y 26, .y 27, .y 28, .y 29, .y 30] 18 0 0 0 (by decide +kernel) rfl (fun i _ _ _ wr => ∃ k : Nat, k ≤ l.length ∧ i = .int .i64 k ∧ Hid (Below w.heap.size w wr) ∧ Hid (∀ j y, j < k → l[j]? = some y → stpE (decide (j = 0)) y = 0)) (fun i _ _ _ _ => l.length - (intOf i).toNat) _ _ _ _ rfl rfl rfl rfl
  case start => exact ⟨0, Nat.zero_le _, rfl, Below.refl _ _, fun j y hj => absurd hj (Nat.not_lt_zero _)⟩
  case round =>
    -- a round: the names u18 _ _ _ (four), the world's name
    intro ff u18 _ _ _ wr hrel
    dsimp only [spread]
    obtain ⟨k, hk, rfl, HB, HA⟩ := hrel
    obtain ⟨wo, hwo⟩ : ∃ y : World, y = wr := ⟨_, rfl⟩
    subst hwo
    by_cases hlt : k < l.length
    · obtain ⟨d, hd⟩ : ∃ d, l[k]? = some d := ⟨_, List.getElem?_eq_getElem hlt⟩
      obtain ⟨b, o, rfl, u, hs1, hs2, hst, x0, x1, x2, x3⟩ := stp_at (HL.out.below HB.out) hd
      obtain ⟨A2, c2, rfl, _, _⟩ := hst.form
      have HD := Lib.hid hd
      have hlt' : (k : Int) < (l.length : Int) := by omega
      have hB2 := HB.out.alloc HB.out.size (.cells #[.string d.bond, .bool d.back, .string d.kind, .slice A2 d.tests.length c2] 30)
      have hx := aplain_any d (decide (k = 0)) (.slice A2 d.tests.length c2) (wo.alloc (.cells #[.string d.bond, .bool d.back, .string d.kind, .slice A2 d.tests.length c2] 30)) hs1 hs2 (hst.below ((Below.refl wo.heap.size wo).alloc (Nat.le_refl _) _))
      have hbk := heap_alloc_new wo (.cells #[.string d.bond, .bool d.back, .string d.kind, .slice A2 d.tests.length c2] 30)
      have hk0 : ((k : Int) == 0) = decide (k = 0) := by
        by_cases e : k = 0
        · rw [decide_eq_true e, e]; rfl
        · rw [decide_eq_false e]; exact beq_eq_false_iff_ne.2 (by omega)
      obtain ⟨te, hte⟩ : ∃ te, te = stpE (decide (k = 0)) d := ⟨_, rfl⟩
      have HTE := Lib.hid hte
      rw [← hte] at hx
      clear hd hte hs1 hs2 hst
      go_upto_region 8 with fail
      clear x0 x1 x2 x3
      generalize wo.alloc (.cells #[.string d.bond, .bool d.back, .string d.kind, .slice A2 d.tests.length c2] 30) = w4 at *
      have y0 := block_cell hbk 0
      have y1 := block_cell hbk 1
      have y2 := block_cell hbk 2
      have y3 := block_cell hbk 3
      go_wp2_with fail
      refine hx.mono ?_
      clear hx y0 y1 y2 y3 hbk
      rintro e w5 ⟨rfl, hb5⟩
      have HB5 := Lib.hid (hB2.trans (hb5.mono hB2.size))
      clear hB2 hb5
      by_cases hz : te = 0
      · have HZ := Lib.hid hz
        rw [errV_zero hz]
        clear hz
        go_wp2_with fail
        -- a round's end: the relation, the measure
        apply Rounded.at _ _ _ _ _ rfl rfl rfl rfl rfl rfl
        case rel =>
          refine ⟨k + 1, by omega, by go_num, HB5, fun j y hj hy => ?_⟩
          by_cases e : j = k
          · subst e
            have := HD.out.symm.trans hy
            injection this with this
            subst this
            rw [← HTE.out]; exact HZ.out
          · exact HA.out j y (by omega) hy
        case measure => simp [intOf]; omega
      · have E1 : Hid (askE l = te) := by
          unfold Hid; rw [ask_hit H6.out HA.out HD.out (by rw [← HTE.out]; exact hz), HTE.out]
        have HER := Lib.hid (errV_some hz)
        rw [errV_some hz]
        clear hz
        go_wp2_with fail
        go_ret
        exact ⟨by rw [E1.out, HER.out]; rfl, HB5.out⟩
    · obtain rfl : k = l.length := by omega
      have E1 : Hid (askE l = 0) := ask_ok H0.out H6.out HA.out
      clear hlt
      go_wp2_with fail
      go_ret
      exact ⟨by rw [E1.out]; rfl, HB.out⟩
end Go.Proofs.YtakidgndipnciaaDoor
