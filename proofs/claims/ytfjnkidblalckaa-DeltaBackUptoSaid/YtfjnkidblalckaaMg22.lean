/- Parts: DoD. -/
import Derived.Test.YtfjnkidblalckaaMg20
import Derived.Test.YtfjnkidblalckaaMg21
/- Contracts: delta.Diff, delta.Turn. No condition. -/
namespace Go.Proofs.Ytfjnkidblalckaa
open Go Go.RowKit


/-- Ops and an error come back. -/
def RetOps (l : List Opr) (err : Int) (w : World) (e : Ending) (w' : World) : Prop := ∃ v xs, e = .returned (.tuple #[v, errV err]) ∧ OpsW w.heap.size w' v l xs ∧ Below w.heap.size w w'
theorem diffE_parts (a b : Grf) : (grfE a ≠ 0 → diffE a b = grfE a ∧ diffR a b = []) ∧ (grfE a = 0 → grfE b ≠ 0 → diffE a b = grfE b ∧ diffR a b = []) ∧ (grfE a = 0 → grfE b = 0 → diffE a b = 0 ∧ diffR a b = diffL a b) := by
  refine ⟨fun h => ?_, fun h k => ?_, fun h k => ?_⟩
  · have e : diffE a b = grfE a := by unfold diffE; rw [if_neg h]
    exact ⟨e, by unfold diffR; rw [if_neg (by rw [e]; exact h)]⟩
  · have e : diffE a b = grfE b := by unfold diffE; rw [if_pos h]
    exact ⟨e, by unfold diffR; rw [if_neg (by rw [e]; exact k)]⟩
  · have e : diffE a b = 0 := by unfold diffE; rw [if_pos h, k]
    exact ⟨e, by unfold diffR; rw [if_pos e]⟩
set_option maxRecDepth 100000 in
set_option maxHeartbeats 8000000 in
theorem diff_ops (a b : Grf) (va ta vb tb : Value) (w : World) (ha : GrfR w va ta a) (hb : GrfR w vb tb b) :
    Calls Try.prog 4 #[.agg #[va, ta], .agg #[vb, tb]] w (RetOps (diffR a b) (diffE a b) w) := by
  obtain ⟨A1, c1, rfl, _, _⟩ := ha.1.form
  obtain ⟨A2, c2, rfl, _, _⟩ := ha.2.form
  obtain ⟨A3, c3, rfl, _, _⟩ := hb.1.form
  obtain ⟨A4, c4, rfl, _, _⟩ := hb.2.form
  obtain ⟨W0, hW0⟩ : ∃ W0, W0 = (w.alloc (.cells #[.slice A1 a.nodes.length c1, .slice A2 a.ties.length c2] 25)).alloc (.cells #[.slice A3 b.nodes.length c3, .slice A4 b.ties.length c4] 25) := ⟨_, rfl⟩
  have hb0 : Below w.heap.size w W0 := by rw [hW0]; exact ((Below.refl _ _).alloc (Nat.le_refl _) _).alloc (by simp) _
  have g0 : W0.heap[w.heap.size]? = some (.cells #[.slice A1 a.nodes.length c1, .slice A2 a.ties.length c2] 25 (0, 0)) := by
    rw [hW0, Below.heap_alloc _ _ _ (by simp)]; exact heap_alloc_new _ _
  have g1 : W0.heap[w.heap.size + 1]? = some (.cells #[.slice A3 b.nodes.length c3, .slice A4 b.ties.length c4] 25 (0, 0)) := by
    have := heap_alloc_new (w.alloc (.cells #[.slice A1 a.nodes.length c1, .slice A2 a.ties.length c2] 25)) (.cells #[.slice A3 b.nodes.length c3, .slice A4 b.ties.length c4] 25); rw [hW0]; simpa using this
  have hW0' := hW0.symm
  have hw0 := hb0.size
  have X0 := Lib.hid (block_cell g0 0)
  have X1 := Lib.hid (block_cell g0 1)
  have Y0 := Lib.hid (block_cell g1 0)
  have Y1 := Lib.hid (block_cell g1 1)
  have HA := Lib.hid (ha.below hb0)
  have HB := Lib.hid (hb.below hb0)
  have HCA : Hid (∀ W, Below W0.heap.size W0 W → Calls Try.prog 9 #[.agg #[.slice A1 a.nodes.length c1, .slice A2 a.ties.length c2]] W fun e w' => e = .returned (errV (grfE a)) ∧ Below W.heap.size W w') := fun W h => grfCheck_any a _ _ W (HA.out.below h)
  have HCB : Hid (∀ W, Below W0.heap.size W0 W → Calls Try.prog 9 #[.agg #[.slice A3 b.nodes.length c3, .slice A4 b.ties.length c4]] W fun e w' => e = .returned (errV (grfE b)) ∧ Below W.heap.size W w') := fun W h => grfCheck_any b _ _ W (HB.out.below h)
  have HOF : Hid (grfE a = 0 → grfE b = 0 → ∀ W, Below W0.heap.size W0 W → Calls Try.prog 10 #[.agg #[.slice A1 a.nodes.length c1, .slice A2 a.ties.length c2], .agg #[.slice A3 b.nodes.length c3, .slice A4 b.ties.length c4]] W fun e w' => ∃ v xs, e = .returned v ∧ OpsW W.heap.size w' v (diffL a b) xs ∧ Below W.heap.size W w') := fun h1 h2 W h => of_ops a b _ _ _ _ W (HA.out.below h) (HB.out.below h) h1 h2
  obtain ⟨p1, p2, p3⟩ := diffE_parts a b
  have P1 := Lib.hid p1
  have P2 := Lib.hid p2
  have P3 := Lib.hid p3
  unfold RetOps
  generalize diffE a b = de at *
  generalize diffR a b = dr at *
  generalize diffL a b = dl at *
  clear ha hb hW0 g0 g1 p1 p2 p3
  have x0 := X0.out
  have x1 := X1.out
  have y0 := Y0.out
  have y1 := Y1.out
  have hba : Below W0.heap.size W0 (W0.alloc (.cells #[.slice A1 a.nodes.length c1, .slice A2 a.ties.length c2, .slice A3 b.nodes.length c3, .slice A4 b.ties.length c4] 25)) := (Below.refl _ _).alloc (Nat.le_refl _) _
  have hrw := heap_alloc_new W0 (.cells #[.slice A1 a.nodes.length c1, .slice A2 a.ties.length c2, .slice A3 b.nodes.length c3, .slice A4 b.ties.length c4] 25)
  have HRW := Lib.hid hrw
  clear hrw
  go_enter Try.func4, Try.ntmps4
  go_wp2_with fail
  clear hW0' x0 x1 y0 y1
  generalize W0.alloc (.cells #[.slice A1 a.nodes.length c1, .slice A2 a.ties.length c2, .slice A3 b.nodes.length c3, .slice A4 b.ties.length c4] 25) = wa at *
  go_loopw [13] (fun i wr => ∃ k : Nat, k ≤ 2 ∧ i = .int .i64 k ∧ Below wa.heap.size wa wr ∧ Hid ((1 ≤ k → grfE a = 0) ∧ (2 ≤ k → grfE b = 0))) (fun i _ => 2 - (intOf i).toNat)
  case atStart => exact ⟨0, Nat.zero_le _, rfl, Below.refl _ _, ⟨fun h => by omega, fun h => by omega⟩⟩
  case round =>
    obtain ⟨k, hk, rfl, hbr, HP⟩ := hrel
    have hWr := hba.trans (hbr.mono hba.size)
    have hrw := (hbr.block _ (Array.getElem?_eq_some_iff.1 HRW.out).1).trans HRW.out
    have r0 := block_cell hrw 0
    have r1 := block_cell hrw 1
    have r2 := block_cell hrw 2
    have r3 := block_cell hrw 3
    clear hrw
    obtain rfl | rfl | rfl : k = 0 ∨ k = 1 ∨ k = 2 := by omega
    · have hbk := (Below.refl wr.heap.size wr).alloc (Nat.le_refl _) (.cells #[.slice A1 a.nodes.length c1, .slice A2 a.ties.length c2] 25)
      obtain ⟨z0, z1⟩ := cell_box2 wr (.slice A1 a.nodes.length c1) (.slice A2 a.ties.length c2) 25
      have hx := HCA.out _ (hWr.trans (hbk.mono hWr.size))
      go_wp2_with fail
      refine hx.mono ?_
      clear hx z0 z1
      rintro e w4 ⟨rfl, hb4⟩
      have hbX := hbr.trans ((hbk.trans (hb4.mono hbk.size)).mono hbr.size)
      have hbw := hb0.trans ((hba.trans (hbX.mono hba.size)).mono hw0)
      by_cases hq : grfE a = 0
      case neg =>
        have HE := Lib.hid (P1.out hq)
        have HEV : Hid (errV (grfE a) = .iface 58 (.int .i64 (grfE a))) := errV_some hq
        rw [errV_some hq]
        clear hq HOF HCA HCB
        go_wp2_with fail
        go_ret2
        exact ⟨_, [], by rw [HE.out.1, HEV.out]; rfl, by rw [HE.out.2]; exact OpsW.nil hbw.size, hbw⟩
      have HS : Hid ((1 ≤ 1 → grfE a = 0) ∧ (2 ≤ 1 → grfE b = 0)) := ⟨fun _ => hq, fun h => by omega⟩
      rw [errV_zero hq]
      clear hq HOF HCA HCB
      go_wp2_with fail
      go_roundw
      case rel => exact ⟨1, by omega, rfl, hbX, HS⟩
      case measure => simp [intOf]
    · have hbk := (Below.refl wr.heap.size wr).alloc (Nat.le_refl _) (.cells #[.slice A3 b.nodes.length c3, .slice A4 b.ties.length c4] 25)
      obtain ⟨z0, z1⟩ := cell_box2 wr (.slice A3 b.nodes.length c3) (.slice A4 b.ties.length c4) 25
      have hx := HCB.out _ (hWr.trans (hbk.mono hWr.size))
      go_wp2_with fail
      refine hx.mono ?_
      clear hx z0 z1
      rintro e w4 ⟨rfl, hb4⟩
      have hbX := hbr.trans ((hbk.trans (hb4.mono hbk.size)).mono hbr.size)
      have hbw := hb0.trans ((hba.trans (hbX.mono hba.size)).mono hw0)
      by_cases hq : grfE b = 0
      case neg =>
        have HE := Lib.hid (P2.out (HP.out.1 (by omega)) hq)
        have HEV : Hid (errV (grfE b) = .iface 58 (.int .i64 (grfE b))) := errV_some hq
        rw [errV_some hq]
        clear hq HOF HCA HCB
        go_wp2_with fail
        go_ret2
        exact ⟨_, [], by rw [HE.out.1, HEV.out]; rfl, by rw [HE.out.2]; exact OpsW.nil hbw.size, hbw⟩
      have HS : Hid ((1 ≤ 2 → grfE a = 0) ∧ (2 ≤ 2 → grfE b = 0)) := ⟨fun _ => HP.out.1 (by omega), fun _ => hq⟩
      rw [errV_zero hq]
      clear hq HOF HCA HCB
      go_wp2_with fail
      go_roundw
      case rel => exact ⟨2, by omega, rfl, hbX, HS⟩
      case measure => simp [intOf]
    · have h1 := HP.out.1 (by omega)
      have h2 := HP.out.2 (by omega)
      have hx := HOF.out h1 h2 wr hWr
      have HE := Lib.hid (P3.out h1 h2)
      have x0 := cell_below hWr X0.out
      have x1 := cell_below hWr X1.out
      have y0 := cell_below hWr Y0.out
      have y1 := cell_below hWr Y1.out
      have hbw := hb0.trans (hWr.mono hw0)
      clear h1 h2 r0 r1 r2 r3 HOF HCA HCB
      go_wp2_with fail
      refine hx.mono ?_
      clear hx x0 x1 y0 y1
      rintro e w4 ⟨v, xs, rfl, hop, hb4⟩
      obtain ⟨Av, cv, hv, _, _⟩ := hop.o.form
      subst hv
      have HSL := Lib.hid hop
      clear hop
      go_wp2_with fail
      go_ret2
      exact ⟨_, _, by rw [HE.out.1]; rfl, by rw [HE.out.2]; exact ⟨HSL.out.o.mono hbw.size, HSL.out.r.mono hbw.size, Nat.le_trans hbw.size hb4.size⟩, hbw.trans (hb4.mono hbw.size)⟩
/-- Ops turned. -/
theorem turn_parts (g : Grf) (l : List Opr) : (dallE g l ≠ 0 → turnR g l = []) ∧ (dallE g l = 0 → turnR g l = diffL (dallG g l) g ∧ grfE g = 0 ∧ grfE (dallG g l) = 0) := by
  refine ⟨fun h => by unfold turnR; rw [if_neg h], fun h => ⟨by unfold turnR; rw [if_pos h], ?_⟩⟩
  have h1 := h
  unfold dallE at h1
  split at h1
  · simp at h1
  · split at h1
    · rename_i _ h2
      refine ⟨h2, ?_⟩
      unfold dallG
      rw [if_pos h]
      exact all_right h2 h1
    · rename_i _ h2; exact absurd h1 h2
set_option maxRecDepth 100000 in
set_option maxHeartbeats 8000000 in
theorem turn_ops (g : Grf) (l : List Opr) (vn vt vl : Value) (w : World) (hG : GrfR w vn vt g) (hL : Sl oprL w vl l) :
    Calls Try.prog 8 #[.agg #[vn, vt], vl] w (RetOps (turnR g l) (dallE g l) w) := by
  obtain ⟨A1, c1, rfl, _, _⟩ := hG.1.form
  obtain ⟨A2, c2, rfl, _, _⟩ := hG.2.form
  obtain ⟨Al, cl, rfl, _, _⟩ := hL.form
  have hb0 : Below w.heap.size w (w.alloc (.cells #[.slice A1 g.nodes.length c1, .slice A2 g.ties.length c2] 25)) := (Below.refl _ _).alloc (Nat.le_refl _) _
  obtain ⟨x0, x1⟩ := cell_box2 w (.slice A1 g.nodes.length c1) (.slice A2 g.ties.length c2) 25
  have hx := dall_any g l _ _ _ _ (hG.below hb0) (hL.below hb0)
  have HG := Lib.hid hG
  obtain ⟨p1, p2⟩ := turn_parts g l
  have P1 := Lib.hid p1
  have P2 := Lib.hid p2
  unfold RetOps
  unfold RetA at hx
  have HOF : Hid (dallE g l = 0 → ∀ (vn vt : Value) W, Below w.heap.size w W → GrfR W vn vt (dallG g l) → Calls Try.prog 10 #[.agg #[vn, vt], .agg #[.slice A1 g.nodes.length c1, .slice A2 g.ties.length c2]] W fun e w' => ∃ v xs, e = .returned v ∧ OpsW W.heap.size w' v (turnR g l) xs ∧ Below W.heap.size W w') := fun h vn vt W hb hr => by
    obtain ⟨h1, h2, h3⟩ := p2 h
    rw [h1]
    exact of_ops _ _ _ _ _ _ W hr (HG.out.below hb) h3 h2
  generalize dallE g l = de at *
  generalize dallG g l = og at *
  generalize dallI g l = oi at *
  generalize turnR g l = tr at *
  clear hG hL p1 p2 P2
  go_enter Try.func8, Try.ntmps8
  go_wp2_with fail
  refine hx.mono ?_
  clear hx
  rintro e w1 ⟨un, ut, rfl, hr, hb1⟩
  obtain ⟨A3, c3, rfl, _, _⟩ := hr.1.form
  obtain ⟨A4, c4, rfl, _, _⟩ := hr.2.form
  have HR := Lib.hid hr
  have x0 := cell_below hb1 x0
  have x1 := cell_below hb1 x1
  have hb2 := hb0.trans (hb1.mono hb0.size)
  clear hr hb1
  go_upto_region 2 with fail
  obtain ⟨y0, y1⟩ := cell_box2 w1 (.slice A3 og.nodes.length c3) (.slice A4 og.ties.length c4) 25
  have hba : Below w1.heap.size w1 (w1.alloc (.cells #[.slice A3 og.nodes.length c3, .slice A4 og.ties.length c4] 25)) := (Below.refl _ _).alloc (Nat.le_refl _) _
  generalize w1.alloc (.cells #[.slice A3 og.nodes.length c3, .slice A4 og.ties.length c4] 25) = w2 at *
  have x0 := cell_below hba x0
  have x1 := cell_below hba x1
  have hb3 := hb2.trans (hba.mono hb2.size)
  by_cases hz : de = 0
  case neg =>
    have HE := Lib.hid (P1.out hz)
    have HEV : Hid (errV de = .iface 58 (.int .i64 de)) := errV_some hz
    rw [errV_some hz]
    clear hz HOF
    go_wp2_with fail
    go_ret2
    exact ⟨_, [], by rw [HEV.out]; rfl, by rw [HE.out]; exact OpsW.nil hb3.size, hb3⟩
  have hx := HOF.out hz _ _ w2 hb3 (HR.out.below hba)
  have HEV : Hid (errV de = .nilIface) := errV_zero hz
  rw [errV_zero hz]
  clear hz HOF P1
  go_wp2_with fail
  refine hx.mono ?_
  clear hx x0 x1 y0 y1
  rintro e w4 ⟨v, xs, rfl, hop, hb4⟩
  obtain ⟨Av, cv, hv, _, _⟩ := hop.o.form
  subst hv
  have HSL := Lib.hid hop
  clear hop
  go_wp2_with fail
  go_ret2
  exact ⟨_, _, by rw [HEV.out]; rfl, ⟨HSL.out.o.mono hb3.size, HSL.out.r.mono hb3.size, Nat.le_trans hb3.size hb4.size⟩, hb3.trans (hb4.mono hb3.size)⟩
end Go.Proofs.Ytfjnkidblalckaa
