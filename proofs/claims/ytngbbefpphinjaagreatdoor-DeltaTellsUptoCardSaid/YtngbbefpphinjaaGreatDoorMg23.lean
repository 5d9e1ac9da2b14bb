/- Parts: GtB, RlE, DoD. -/
import Derived.Test.YtngbbefpphinjaaGreatDoorMg13
import Derived.Test.YtngbbefpphinjaaGreatDoorMg17
import Derived.Test.YtngbbefpphinjaaGreatDoorMg20
/- Contracts: kinsame.Graph, graph.Equal, slices.EqualFunc at nodes, graph.Same. No condition. -/
namespace Go.Proofs.YtngbbefpphinjaaGreatDoor
open Go Go.RowKit



theorem pair_step {D : Type} {a b : List D} {k : Nat} {x y : D} (h : ∀ j x y, j < k → a[j]? = some x → b[j]? = some y → x = y) (hx : a[k]? = some x) (hy : b[k]? = some y) (hq : x = y) : ∀ j x y, j < k + 1 → a[j]? = some x → b[j]? = some y → x = y := fun j p q hj hp hq2 => by
  by_cases hjk : j = k
  · subst hjk
    have e1 := hx.symm.trans hp
    have e2 := hy.symm.trans hq2
    injection e1 with e1; injection e2 with e2
    rw [← e1, ← e2]; exact hq
  · exact h j p q (by omega) hp hq2
theorem pair_no {D : Type} {a b : List D} {k : Nat} {x y : D} (hx : a[k]? = some x) (hy : b[k]? = some y) (hq : ¬ x = y) : ¬ a = b := fun e => by
  rw [e, hy] at hx
  injection hx with e1
  exact hq e1.symm
set_option maxRecDepth 100000 in
set_option maxHeartbeats 8000000 in
theorem sgraph_any (a b : Grf) (k1 b1 k2 b2 : Value) (w : World) (h1 : GrfR w k1 b1 a) (h2 : GrfR w k2 b2 b) :
    Calls Tryz.prog 11 #[.agg #[k1, b1], .agg #[k2, b2]] w fun e w' => e = .returned (.bool (decide (a = b))) ∧ Below w.heap.size w w' := by
  obtain ⟨A1, c1, rfl, _, hm1⟩ := h1.1.form
  obtain ⟨A2, c2, rfl, _, hm2⟩ := h1.2.form
  obtain ⟨A3, c3, rfl, _, hm3⟩ := h2.1.form
  obtain ⟨A4, c4, rfl, _, hm4⟩ := h2.2.form
  unfold maxLen at hm1 hm2 hm3 hm4
  obtain ⟨W0, hW0⟩ : ∃ W0, W0 = (w.alloc (.cells #[.slice A1 a.nodes.length c1, .slice A2 a.ties.length c2] 25)).alloc (.cells #[.slice A3 b.nodes.length c3, .slice A4 b.ties.length c4] 25) := ⟨_, rfl⟩
  have hb0 : Below w.heap.size w W0 := by rw [hW0]; exact ((Below.refl _ _).alloc (Nat.le_refl _) _).alloc (by simp) _
  have g0 : W0.heap[w.heap.size]? = some (.cells #[.slice A1 a.nodes.length c1, .slice A2 a.ties.length c2] 25 (0, 0)) := by
    rw [hW0, Below.heap_alloc _ _ _ (by simp)]; exact heap_alloc_new _ _
  have g1 : W0.heap[w.heap.size + 1]? = some (.cells #[.slice A3 b.nodes.length c3, .slice A4 b.ties.length c4] 25 (0, 0)) := by
    have := heap_alloc_new (w.alloc (.cells #[.slice A1 a.nodes.length c1, .slice A2 a.ties.length c2] 25)) (.cells #[.slice A3 b.nodes.length c3, .slice A4 b.ties.length c4] 25); rw [hW0]; simpa using this
  have hW0' := hW0.symm
  have hw0 := hb0.size
  have X0 := Lib.hid (block_cell g0 0)
  have X1 := Lib.hid (block_cell g0 1)
  have Y0 := Lib.hid (block_cell g1 0)
  have Y1 := Lib.hid (block_cell g1 1)
  have H1 := Lib.hid (h1.below hb0)
  have H2 := Lib.hid (h2.below hb0)
  have HNN : Hid (¬ a.nodes = b.nodes → decide (a = b) = false) := fun h => decide_eq_false fun e => h (by rw [e])
  have HNT : Hid (¬ a.ties = b.ties → decide (a = b) = false) := fun h => decide_eq_false fun e => h (by rw [e])
  have HEQ : Hid (a.nodes = b.nodes → a.ties = b.ties → decide (a = b) = true) := fun h h' => decide_eq_true (by cases a; cases b; cases h; cases h'; rfl)
  have x0 := X0.out
  have x1 := X1.out
  have y0 := Y0.out
  have y1 := Y1.out
  clear h1 h2 g0 g1 hW0
  generalize decide (a = b) = E at *
  by_cases hl : a.nodes.length = b.nodes.length
  case neg =>
    have HE : Hid (E = false) := HNN.out fun e => hl (by rw [e])
    have hl2 : ((a.nodes.length : Int) != (b.nodes.length : Int)) = true := by rw [bne_iff_ne]; omega
    have hl3 : (a.nodes.length != b.nodes.length) = true := by rw [bne_iff_ne]; omega
    clear hl
    go_enter Tryz.func11, Tryz.ntmps11
    go_wp2_with fail
    go_ret
    exact ⟨by rw [HE.out]; rfl, hb0⟩
  have hl2 : ((a.nodes.length : Int) != (b.nodes.length : Int)) = false := by rw [bne_eq_false_iff_eq]; omega
  have hl3 : (a.nodes.length != b.nodes.length) = false := by rw [bne_eq_false_iff_eq]; omega
  by_cases ht : a.ties.length = b.ties.length
  case neg =>
    have HE : Hid (E = false) := HNT.out fun e => ht (by rw [e])
    have ht2 : ((a.ties.length : Int) != (b.ties.length : Int)) = true := by rw [bne_iff_ne]; omega
    have ht3 : (a.ties.length != b.ties.length) = true := by rw [bne_iff_ne]; omega
    clear hl ht
    go_enter Tryz.func11, Tryz.ntmps11
    go_wp2_with fail
    go_ret
    exact ⟨by rw [HE.out]; rfl, hb0⟩
  have ht2 : ((a.ties.length : Int) != (b.ties.length : Int)) = false := by rw [bne_eq_false_iff_eq]; omega
  have ht3 : (a.ties.length != b.ties.length) = false := by rw [bne_eq_false_iff_eq]; omega
  have HL := Lib.hid hl
  have HT := Lib.hid ht
  clear hl ht
  go_enter Tryz.func11, Tryz.ntmps11
  go_wp2_with fail
  clear hW0' hl2 hl3 ht2 ht3 x1 y1
  go_loopw [5] (fun i wr => ∃ k : Nat, k ≤ a.nodes.length ∧ i = .int .i64 k ∧ Below W0.heap.size W0 wr ∧ Hid (∀ j x y, j < k → a.nodes[j]? = some x → b.nodes[j]? = some y → x = y)) (fun i _ => a.nodes.length - (intOf i).toNat)
  case atStart => exact ⟨0, Nat.zero_le _, rfl, Below.refl _ _, fun j x y hj => absurd hj (Nat.not_lt_zero _)⟩
  case round =>
    clear x0 y0
    obtain ⟨k, hk, rfl, hbr, HA⟩ := hrel
    have x0 := cell_below hbr X0.out
    have hB := hb0.trans (hbr.mono hw0)
    by_cases hlt : k < a.nodes.length
    · have y0 := cell_below hbr Y0.out
      obtain ⟨x, hx⟩ : ∃ d, a.nodes[k]? = some d := ⟨_, List.getElem?_eq_getElem hlt⟩
      obtain ⟨y, hy⟩ : ∃ d, b.nodes[k]? = some d := ⟨_, List.getElem?_eq_getElem (by have := HL.out; omega)⟩
      have hlt' : (k : Int) < (a.nodes.length : Int) := by omega
      have hlt2 : (k : Int) < (b.nodes.length : Int) := by have := HL.out; omega
      obtain ⟨p1, q1, rfl, u1, _, _, hu1, x2, x3, x4⟩ := nod_at (H1.out.below hbr).1 hx
      obtain ⟨p2, q2, rfl, u2, _, _, hu2, y2, y3, y4⟩ := nod_at (H2.out.below hbr).1 hy
      have HNO : Hid (decide (x = y) = false → E = false) := fun h => HNN.out (pair_no hx hy (of_decide_eq_false h))
      have HYES : Hid (decide (x = y) = true → ∀ j x y, j < k + 1 → a.nodes[j]? = some x → b.nodes[j]? = some y → x = y) := fun h => pair_step HA.out hx hy (of_decide_eq_true h)
      have HC : Hid (∀ W, Below wr.heap.size wr W → Calls Tryz.prog 52 #[.agg #[.int .i64 x.id, .string x.kind, u1], .agg #[.int .i64 y.id, .string y.kind, u2]] W fun e w' => e = .returned (.bool (decide (x = y))) ∧ Below W.heap.size W w') := fun W h => snode_any x y _ _ W (hu1.below h) (hu2.below h)
      obtain ⟨B1, d1, rfl, _, _⟩ := hu1.form
      obtain ⟨B2, d2, rfl, _, _⟩ := hu2.form
      clear hx hy hu1 hu2 HA
      generalize decide (x = y) = qq at *
      go_wp2_with fail
      refine wp_mid_k 10 _ rfl rfl (by kernel_rfl) (by kernel_rfl) ?_
      simp only [List.take_succ_cons, List.take_zero, List.drop_succ_cons, List.drop_zero]
      repeat (go_big_quiet_step (fail))
      refine wpQuiet_nil ?_
      intro _ hw'
      obtain ⟨nq, hw''⟩ := hw'
      subst hw''
      intro K hK
      have hbq := below_drewN (Below.refl wr.heap.size wr) nq
      have hc := HC.out (wr.drewN nq) hbq
      clear HC
      go_wp2_with fail
      refine hc.mono ?_
      clear hc
      rintro e w3 ⟨rfl, hb3⟩
      have hb13 := hbq.trans hb3
      refine hK _ _ ?_
      repeat (go_big_quiet_step (fail))
      refine wpQuiet_nil ?_
      intro _ hw'
      obtain ⟨nq2, hw''⟩ := hw'
      subst hw''
      clear hK
      have hbX := below_drewN hb13 nq2
      generalize w3.drewN nq2 = w4 at *
      have hb4 := hbr.trans (hbX.mono hbr.size)
      have hB4 := hB.trans (hbX.mono hB.size)
      clear hbq hb3 hb13 hbX x0 y0 x2 x3 x4 y2 y3 y4
      cases qq with
      | false =>
        have HE : Hid (E = false) := HNO.out rfl
        clear HNO HYES
        go_wp2_with fail
        go_ret
        exact ⟨by rw [HE.out]; rfl, hB4⟩
      | true =>
        have HS := Lib.hid (HYES.out rfl)
        clear HNO HYES
        go_wp2_with fail
        go_roundw
        case rel => exact ⟨k + 1, by omega, by go_num, hb4, HS⟩
        case measure => simp [intOf]; omega
    · obtain rfl : k = a.nodes.length := by omega
      have HEN : Hid (a.nodes = b.nodes) := lists_eq HL.out HA.out
      have x1 := cell_below hbr X1.out
      clear hlt hk HA
      obtain ⟨wo, rfl⟩ : ∃ wo : World, wo = wr := ⟨_, rfl⟩
      go_wp2_with fail
      go_loopw [7] (fun i wr => ∃ k : Nat, k ≤ a.ties.length ∧ i = .int .i64 k ∧ Below W0.heap.size W0 wr ∧ Hid (∀ j x y, j < k → a.ties[j]? = some x → b.ties[j]? = some y → x = y)) (fun i _ => a.ties.length - (intOf i).toNat)
      case atStart => exact ⟨0, Nat.zero_le _, rfl, hbr, fun j x y hj => absurd hj (Nat.not_lt_zero _)⟩
      case round =>
        clear x0 x1 hbr hB
        obtain ⟨k, hk, rfl, hbr, HA⟩ := hrel
        have x1 := cell_below hbr X1.out
        have hB := hb0.trans (hbr.mono hw0)
        by_cases hlt : k < a.ties.length
        · have y1 := cell_below hbr Y1.out
          obtain ⟨x, hx⟩ : ∃ d, a.ties[k]? = some d := ⟨_, List.getElem?_eq_getElem hlt⟩
          obtain ⟨y, hy⟩ : ∃ d, b.ties[k]? = some d := ⟨_, List.getElem?_eq_getElem (by have := HT.out; omega)⟩
          have hlt' : (k : Int) < (a.ties.length : Int) := by omega
          have hlt2 : (k : Int) < (b.ties.length : Int) := by have := HT.out; omega
          obtain ⟨p1, q1, rfl, _, x2, x3, x4⟩ := tie_at (H1.out.below hbr).2 hx
          obtain ⟨p2, q2, rfl, _, y2, y3, y4⟩ := tie_at (H2.out.below hbr).2 hy
          have hneq := tie_neq x y
          have hgd := tie_guard
          by_cases hq : x = y
          · have HS := Lib.hid (pair_step HA.out hx hy hq)
            rw [decide_eq_true hq] at hneq
            clear hx hy hq HA
            go_wp2_with fail
            go_quiet (fail)
            go_wp2_with fail
            go_roundw
            case rel => exact ⟨k + 1, by omega, by go_num, below_drewN hbr _, HS⟩
            case measure => simp [intOf]; omega
          · have HE : Hid (E = false) := HNT.out (pair_no hx hy hq)
            rw [decide_eq_false hq] at hneq
            clear hx hy hq HA
            go_wp2_with fail
            go_quiet (fail)
            go_wp2_with fail
            go_ret
            exact ⟨by rw [HE.out]; rfl, below_drewN hB _⟩
        · obtain rfl : k = a.ties.length := by omega
          have HE : Hid (E = true) := HEQ.out HEN.out (lists_eq HT.out HA.out)
          clear HA
          go_wp2_with fail
          go_ret
          exact ⟨by rw [HE.out]; rfl, hB⟩
end Go.Proofs.YtngbbefpphinjaaGreatDoor

/- Contract: kinsame.Ops: whether two lists are the same. No condition. -/
namespace Go.Proofs.YtngbbefpphinjaaGreatDoor
open Go Go.RowKit


theorem opr_eqB (x y : Opr) : (x = y) ↔ x.node = y.node ∧ x.what = y.what ∧ x.prop = y.prop ∧ x.tie = y.tie := by
  cases x; cases y
  simp only [Opr.mk.injEq]
  constructor
  · rintro ⟨h1, h2, h3, h4⟩; exact ⟨h2, h1, h3, h4⟩
  · rintro ⟨h1, h2, h3, h4⟩; exact ⟨h2, h1, h3, h4⟩
instance oprDec : DecidableEq Opr := fun x y => decidable_of_iff _ (opr_eqB x y).symm
set_option maxRecDepth 100000 in
set_option maxHeartbeats 8000000 in
theorem sops_any (a b : List Opr) (va vb : Value) (w : World) (ha : Sl oprL w va a) (hb : Sl oprL w vb b) : Calls Tryz.prog 16 #[va, vb] w fun e w' => e = .returned (.bool (decide (a = b))) ∧ Below w.heap.size w w' := by
  obtain ⟨A, c, rfl, _, hcm⟩ := ha.form
  obtain ⟨B, d, rfl, _, hdm⟩ := hb.form
  unfold maxLen at hcm hdm
  by_cases hl : a.length = b.length
  case neg =>
    have HE : Hid (decide (a = b) = false) := decide_eq_false fun e => hl (by rw [e])
    have hl' : decide ((a.length : Int) = (b.length : Int)) = false := decide_eq_false (by omega)
    have hl2 : ((a.length : Int) == (b.length : Int)) = false := by rw [beq_eq_false_iff_ne]; omega
    clear ha hb hl
    go_enter Tryz.func16, Tryz.ntmps16
    go_wp2_with fail
    go_ret
    exact ⟨by rw [HE.out]; rfl, Below.refl _ _⟩
  have HL := Lib.hid hl
  have hlb : a.length ≤ b.length := by omega
  have HA0 := Lib.hid ha
  have HB0 := Lib.hid hb
  have HNN : Hid (¬ a = b → decide (a = b) = false) := fun h => decide_eq_false h
  have HYY : Hid (a = b → decide (a = b) = true) := fun h => decide_eq_true h
  generalize hE : decide (a = b) = E at *
  clear hE
  rw [← hl]
  clear hl ha hb
  go_enter Tryz.func16, Tryz.ntmps16
  go_wp2_with fail
  go_loopw [5] (fun i wr => ∃ k : Nat, k ≤ a.length ∧ i = .int .i64 k ∧ Below w.heap.size w wr ∧ Hid (∀ j x y, j < k → a[j]? = some x → b[j]? = some y → x = y)) (fun i _ => a.length - (intOf i).toNat)
  case atStart => exact ⟨0, Nat.zero_le _, rfl, Below.refl _ _, fun j x y hj => absurd hj (Nat.not_lt_zero _)⟩
  case round =>
    obtain ⟨k, hk, rfl, hbr, HA⟩ := hrel
    by_cases hlt : k < a.length
    · obtain ⟨x, hx⟩ : ∃ d, a[k]? = some d := ⟨_, List.getElem?_eq_getElem hlt⟩
      obtain ⟨y, hy⟩ : ∃ d, b[k]? = some d := ⟨_, List.getElem?_eq_getElem (by omega)⟩
      have hlt' : (k : Int) < (a.length : Int) := by omega
      have HNO : Hid (¬ x = y → E = false) := fun h => HNN.out fun e => by
        rw [e, hy] at hx
        exact h (Option.some.inj hx).symm
      have HYES : Hid (x = y → ∀ j x y, j < k + 1 → a[j]? = some x → b[j]? = some y → x = y) := fun h => pair_step HA.out hx hy h
      obtain ⟨p1, q1, u1, hA1, ho1, hc1⟩ := opr_at (HA0.out.below hbr) hx
      obtain ⟨p2, q2, u2, hA2, ho2, hc2⟩ := opr_at (HB0.out.below hbr) hy
      subst hA1; subst hA2
      clear hx hy HA
      obtain ⟨xw, xn, xp, xt⟩ := x
      obtain ⟨yw, yn, yp, yt⟩ := y
      have hu1 : Sl prpL wr u1 xn.props := ho1.r
      have hu2 : Sl prpL wr u2 yn.props := ho2.r
      have HC : Hid (∀ W, Below wr.heap.size wr W → Calls Tryz.prog 52 #[.agg #[.int .i64 xn.id, .string xn.kind, u1], .agg #[.int .i64 yn.id, .string yn.kind, u2]] W fun e w' => e = .returned (.bool (decide (xn = yn))) ∧ Below W.heap.size W w') := fun W h => snode_any xn yn _ _ W (hu1.below h) (hu2.below h)
      obtain ⟨B1, d1, rfl, _, _⟩ := hu1.form
      obtain ⟨B2, d2, rfl, _, _⟩ := hu2.form
      have x0 : wr.cell? ⟨p1, q1 + k * 11, none⟩ = some (.int .i64 xw) := by have := hc1 0 (.int .i64 xw) rfl; simpa using this
      have x1 : wr.cell? ⟨p1, q1 + k * 11 + 1, none⟩ = some (.int .i64 xn.id) := hc1 1 _ rfl
      have x2 : wr.cell? ⟨p1, q1 + k * 11 + 2, none⟩ = some (.string xn.kind) := hc1 2 _ rfl
      have x3 : wr.cell? ⟨p1, q1 + k * 11 + 3, none⟩ = some (.slice B1 xn.props.length d1) := hc1 3 _ rfl
      have x4 : wr.cell? ⟨p1, q1 + k * 11 + 4, none⟩ = some (.string xp.name) := hc1 4 _ rfl
      have x5 : wr.cell? ⟨p1, q1 + k * 11 + 5, none⟩ = some (.int .i64 xp.v.ty) := hc1 5 _ rfl
      have x6 : wr.cell? ⟨p1, q1 + k * 11 + 6, none⟩ = some (.int .i64 xp.v.n) := hc1 6 _ rfl
      have x7 : wr.cell? ⟨p1, q1 + k * 11 + 7, none⟩ = some (.string xp.v.s) := hc1 7 _ rfl
      have x8 : wr.cell? ⟨p1, q1 + k * 11 + 8, none⟩ = some (.string xt.bond) := hc1 8 _ rfl
      have x9 : wr.cell? ⟨p1, q1 + k * 11 + 9, none⟩ = some (.int .i64 xt.src) := hc1 9 _ rfl
      have xa : wr.cell? ⟨p1, q1 + k * 11 + 10, none⟩ = some (.int .i64 xt.dst) := hc1 10 _ rfl
      have y0 : wr.cell? ⟨p2, q2 + k * 11, none⟩ = some (.int .i64 yw) := by have := hc2 0 (.int .i64 yw) rfl; simpa using this
      have y1 : wr.cell? ⟨p2, q2 + k * 11 + 1, none⟩ = some (.int .i64 yn.id) := hc2 1 _ rfl
      have y2 : wr.cell? ⟨p2, q2 + k * 11 + 2, none⟩ = some (.string yn.kind) := hc2 2 _ rfl
      have y3 : wr.cell? ⟨p2, q2 + k * 11 + 3, none⟩ = some (.slice B2 yn.props.length d2) := hc2 3 _ rfl
      have y4 : wr.cell? ⟨p2, q2 + k * 11 + 4, none⟩ = some (.string yp.name) := hc2 4 _ rfl
      have y5 : wr.cell? ⟨p2, q2 + k * 11 + 5, none⟩ = some (.int .i64 yp.v.ty) := hc2 5 _ rfl
      have y6 : wr.cell? ⟨p2, q2 + k * 11 + 6, none⟩ = some (.int .i64 yp.v.n) := hc2 6 _ rfl
      have y7 : wr.cell? ⟨p2, q2 + k * 11 + 7, none⟩ = some (.string yp.v.s) := hc2 7 _ rfl
      have y8 : wr.cell? ⟨p2, q2 + k * 11 + 8, none⟩ = some (.string yt.bond) := hc2 8 _ rfl
      have y9 : wr.cell? ⟨p2, q2 + k * 11 + 9, none⟩ = some (.int .i64 yt.src) := hc2 9 _ rfl
      have ya : wr.cell? ⟨p2, q2 + k * 11 + 10, none⟩ = some (.int .i64 yt.dst) := hc2 10 _ rfl
      have HEQ := Lib.hid (opr_eqB ⟨xw, xn, xp, xt⟩ ⟨yw, yn, yp, yt⟩)
      clear hc1 hc2 ho1 ho2 hu1 hu2
      go_wp2_with fail
      refine wp_mid_k 10 _ rfl rfl (by kernel_rfl) (by kernel_rfl) ?_
      simp only [List.take_succ_cons, List.take_zero, List.drop_succ_cons, List.drop_zero]
      repeat (go_big_quiet_step (fail))
      refine wpQuiet_nil ?_
      intro _ hw'
      obtain ⟨nq, hw''⟩ := hw'
      subst hw''
      intro K hK
      have hbq := below_drewN (Below.refl wr.heap.size wr) nq
      have hc := HC.out (wr.drewN nq) hbq
      clear HC
      go_wp2_with fail
      refine hc.mono ?_
      clear hc
      rintro e w3 ⟨rfl, hb3⟩
      have hb13 := hbq.trans hb3
      by_cases hnd : xn = yn
      case neg =>
        rw [decide_eq_false hnd]
        have HE : Hid (E = false) := HNO.out fun e => hnd (HEQ.out.1 e).1
        refine hK _ _ ?_
        repeat (go_big_quiet_step (fail))
        refine wpQuiet_nil ?_
        intro _ hw'
        obtain ⟨nq2, hw''⟩ := hw'
        subst hw''
        clear hK
        have hbX := below_drewN hb13 nq2
        have hb4 := hbr.trans (hbX.mono hbr.size)
        generalize w3.drewN nq2 = w4 at *
        clear HNO HYES HEQ hb3 hb13 x0 x1 x2 x3 x4 x5 x6 x7 x8 x9 xa y0 y1 y2 y3 y4 y5 y6 y7 y8 y9 ya
        go_wp2_with fail
        go_quiet (fail)
        go_wp2_with fail
        go_ret
        exact ⟨by rw [HE.out]; rfl, below_drewN hb4 _⟩
      rw [decide_eq_true hnd]
      refine hK _ _ ?_
      repeat (go_big_quiet_step (fail))
      refine wpQuiet_nil ?_
      intro _ hw'
      obtain ⟨nq2, hw''⟩ := hw'
      subst hw''
      clear hK
      have hbX := below_drewN hb13 nq2
      have hb4 := hbr.trans (hbX.mono hbr.size)
      generalize w3.drewN nq2 = w4 at *
      have x0 := cell_below hbX x0
      have x4 := cell_below hbX x4
      have x5 := cell_below hbX x5
      have x6 := cell_below hbX x6
      have x7 := cell_below hbX x7
      have x8 := cell_below hbX x8
      have x9 := cell_below hbX x9
      have xa := cell_below hbX xa
      have y0 := cell_below hbX y0
      have y4 := cell_below hbX y4
      have y5 := cell_below hbX y5
      have y6 := cell_below hbX y6
      have y7 := cell_below hbX y7
      have y8 := cell_below hbX y8
      have y9 := cell_below hbX y9
      have ya := cell_below hbX ya
      clear hb3 hb13 hbX hbq x1 x2 x3 y1 y2 y3
      have hneq1 := prp_neq xp yp
      have hgd1 := prp_guard
      have hneq2 := tie_neq xt yt
      have hgd2 := tie_guard
      by_cases hw : xw = yw
      case neg =>
        have HE : Hid (E = false) := HNO.out fun e => hw (HEQ.out.1 e).2.1
        have hwb : (xw != yw) = true := by simpa using hw
        have hwc : (xw == yw) = false := by rw [beq_eq_false_iff_ne]; exact hw
        clear HNO HYES HEQ hw hnd
        go_wp2_with fail
        go_quiet (fail)
        go_wp2_with fail
        go_ret
        exact ⟨by rw [HE.out]; rfl, below_drewN hb4 _⟩
      have hwb : (xw != yw) = false := by simpa using hw
      have hwc : (xw == yw) = true := by rw [beq_iff_eq]; exact hw
      by_cases hp : xp = yp
      case neg =>
        have HE : Hid (E = false) := HNO.out fun e => hp (HEQ.out.1 e).2.2.1
        rw [decide_eq_false hp] at hneq1
        clear HNO HYES HEQ hw hnd hp
        go_wp2_with fail
        go_quiet (fail)
        go_wp2_with fail
        go_ret
        exact ⟨by rw [HE.out]; rfl, below_drewN hb4 _⟩
      rw [decide_eq_true hp] at hneq1
      by_cases ht : xt = yt
      case neg =>
        have HE : Hid (E = false) := HNO.out fun e => ht (HEQ.out.1 e).2.2.2
        rw [decide_eq_false ht] at hneq2
        clear HNO HYES HEQ hw hnd hp ht
        go_wp2_with fail
        go_quiet (fail)
        go_wp2_with fail
        go_ret
        exact ⟨by rw [HE.out]; rfl, below_drewN hb4 _⟩
      rw [decide_eq_true ht] at hneq2
      have HS := Lib.hid (HYES.out (HEQ.out.2 ⟨hnd, hw, hp, ht⟩))
      clear HNO HYES HEQ hw hnd hp ht
      go_wp2_with fail
      go_quiet (fail)
      go_wp2_with fail
      go_roundw
      case rel => exact ⟨k + 1, by omega, by go_num, below_drewN hb4 _, HS⟩
      case measure => simp [intOf]; omega
    · obtain rfl : k = a.length := by omega
      have HE := Lib.hid (HYY.out (lists_eq HL.out HA.out))
      go_wp2_with fail
      go_ret
      exact ⟨by rw [HE.out]; rfl, hbr⟩
end Go.Proofs.YtngbbefpphinjaaGreatDoor

/- Contracts: delta.Diff, delta.Turn. No condition. -/
namespace Go.Proofs.YtngbbefpphinjaaGreatDoor
open Go Go.RowKit


/-- Ops and an error come back. -/
def RetOps (l : List Opr) (err : Int) (w : World) (e : Ending) (w' : World) : Prop := ∃ v xs, e = .returned (.tuple #[v, errV err]) ∧ OpsW w.heap.size w' v l xs ∧ Below w.heap.size w w'
theorem diffE_parts (a b : Grf) : (grfE a ≠ 0 → diffE a b = grfE a ∧ diffR a b = []) ∧ (grfE a = 0 → grfE b ≠ 0 → diffE a b = grfE b ∧ diffR a b = []) ∧ (grfE a = 0 → grfE b = 0 → diffE a b = 0 ∧ diffR a b = diffL a b) := by
  refine ⟨fun h => ?_, fun h k => ?_, fun h k => ?_⟩
  · have e : diffE a b = grfE a := by unfold diffE; rw [if_neg h]
    exact ⟨e, by unfold diffR; rw [if_neg (by rw [e]; exact h)]⟩
  · have e : diffE a b = grfE b := by unfold diffE; rw [if_pos h]
    exact ⟨e, by unfold diffR; rw [if_neg (by rw [e]; exact k)]⟩
  · have e : diffE a b = 0 := by unfold diffE; rw [if_pos h, k]
    exact ⟨e, by unfold diffR; rw [if_pos e]⟩
set_option maxRecDepth 100000 in
set_option maxHeartbeats 8000000 in
theorem diff_ops (a b : Grf) (va ta vb tb : Value) (w : World) (ha : GrfR w va ta a) (hb : GrfR w vb tb b) :
    Calls Tryz.prog 17 #[.agg #[va, ta], .agg #[vb, tb]] w (RetOps (diffR a b) (diffE a b) w) := by
  obtain ⟨A1, c1, rfl, _, _⟩ := ha.1.form
  obtain ⟨A2, c2, rfl, _, _⟩ := ha.2.form
  obtain ⟨A3, c3, rfl, _, _⟩ := hb.1.form
  obtain ⟨A4, c4, rfl, _, _⟩ := hb.2.form
  obtain ⟨W0, hW0⟩ : ∃ W0, W0 = (w.alloc (.cells #[.slice A1 a.nodes.length c1, .slice A2 a.ties.length c2] 25)).alloc (.cells #[.slice A3 b.nodes.length c3, .slice A4 b.ties.length c4] 25) := ⟨_, rfl⟩
  have hb0 : Below w.heap.size w W0 := by rw [hW0]; exact ((Below.refl _ _).alloc (Nat.le_refl _) _).alloc (by simp) _
  have g0 : W0.heap[w.heap.size]? = some (.cells #[.slice A1 a.nodes.length c1, .slice A2 a.ties.length c2] 25 (0, 0)) := by
    rw [hW0, Below.heap_alloc _ _ _ (by simp)]; exact heap_alloc_new _ _
  have g1 : W0.heap[w.heap.size + 1]? = some (.cells #[.slice A3 b.nodes.length c3, .slice A4 b.ties.length c4] 25 (0, 0)) := by
    have := heap_alloc_new (w.alloc (.cells #[.slice A1 a.nodes.length c1, .slice A2 a.ties.length c2] 25)) (.cells #[.slice A3 b.nodes.length c3, .slice A4 b.ties.length c4] 25); rw [hW0]; simpa using this
  have hW0' := hW0.symm
  have hw0 := hb0.size
  have X0 := Lib.hid (block_cell g0 0)
  have X1 := Lib.hid (block_cell g0 1)
  have Y0 := Lib.hid (block_cell g1 0)
  have Y1 := Lib.hid (block_cell g1 1)
  have HA := Lib.hid (ha.below hb0)
  have HB := Lib.hid (hb.below hb0)
  have HCA : Hid (∀ W, Below W0.heap.size W0 W → Calls Tryz.prog 48 #[.agg #[.slice A1 a.nodes.length c1, .slice A2 a.ties.length c2]] W fun e w' => e = .returned (errV (grfE a)) ∧ Below W.heap.size W w') := fun W h => grfCheck_any a _ _ W (HA.out.below h)
  have HCB : Hid (∀ W, Below W0.heap.size W0 W → Calls Tryz.prog 48 #[.agg #[.slice A3 b.nodes.length c3, .slice A4 b.ties.length c4]] W fun e w' => e = .returned (errV (grfE b)) ∧ Below W.heap.size W w') := fun W h => grfCheck_any b _ _ W (HB.out.below h)
  have HOF : Hid (grfE a = 0 → grfE b = 0 → ∀ W, Below W0.heap.size W0 W → Calls Tryz.prog 57 #[.agg #[.slice A1 a.nodes.length c1, .slice A2 a.ties.length c2], .agg #[.slice A3 b.nodes.length c3, .slice A4 b.ties.length c4]] W fun e w' => ∃ v xs, e = .returned v ∧ OpsW W.heap.size w' v (diffL a b) xs ∧ Below W.heap.size W w') := fun h1 h2 W h => of_ops a b _ _ _ _ W (HA.out.below h) (HB.out.below h) h1 h2
  obtain ⟨p1, p2, p3⟩ := diffE_parts a b
  have P1 := Lib.hid p1
  have P2 := Lib.hid p2
  have P3 := Lib.hid p3
  unfold RetOps
  generalize diffE a b = de at *
  generalize diffR a b = dr at *
  generalize diffL a b = dl at *
  clear ha hb hW0 g0 g1 p1 p2 p3
  have x0 := X0.out
  have x1 := X1.out
  have y0 := Y0.out
  have y1 := Y1.out
  have hba : Below W0.heap.size W0 (W0.alloc (.cells #[.slice A1 a.nodes.length c1, .slice A2 a.ties.length c2, .slice A3 b.nodes.length c3, .slice A4 b.ties.length c4] 25)) := (Below.refl _ _).alloc (Nat.le_refl _) _
  have hrw := heap_alloc_new W0 (.cells #[.slice A1 a.nodes.length c1, .slice A2 a.ties.length c2, .slice A3 b.nodes.length c3, .slice A4 b.ties.length c4] 25)
  have HRW := Lib.hid hrw
  clear hrw
  go_enter Tryz.func17, Tryz.ntmps17
  go_wp2_with fail
  clear hW0' x0 x1 y0 y1
  generalize W0.alloc (.cells #[.slice A1 a.nodes.length c1, .slice A2 a.ties.length c2, .slice A3 b.nodes.length c3, .slice A4 b.ties.length c4] 25) = wa at *
  go_loopw [13] (fun i wr => ∃ k : Nat, k ≤ 2 ∧ i = .int .i64 k ∧ Below wa.heap.size wa wr ∧ Hid ((1 ≤ k → grfE a = 0) ∧ (2 ≤ k → grfE b = 0))) (fun i _ => 2 - (intOf i).toNat)
  case atStart => exact ⟨0, Nat.zero_le _, rfl, Below.refl _ _, ⟨fun h => by omega, fun h => by omega⟩⟩
  case round =>
    obtain ⟨k, hk, rfl, hbr, HP⟩ := hrel
    have hWr := hba.trans (hbr.mono hba.size)
    have hrw := (hbr.block _ (Array.getElem?_eq_some_iff.1 HRW.out).1).trans HRW.out
    have r0 := block_cell hrw 0
    have r1 := block_cell hrw 1
    have r2 := block_cell hrw 2
    have r3 := block_cell hrw 3
    clear hrw
    obtain rfl | rfl | rfl : k = 0 ∨ k = 1 ∨ k = 2 := by omega
    · have hbk := (Below.refl wr.heap.size wr).alloc (Nat.le_refl _) (.cells #[.slice A1 a.nodes.length c1, .slice A2 a.ties.length c2] 25)
      obtain ⟨z0, z1⟩ := cell_box2 wr (.slice A1 a.nodes.length c1) (.slice A2 a.ties.length c2) 25
      have hx := HCA.out _ (hWr.trans (hbk.mono hWr.size))
      go_wp2_with fail
      refine hx.mono ?_
      clear hx z0 z1
      rintro e w4 ⟨rfl, hb4⟩
      have hbX := hbr.trans ((hbk.trans (hb4.mono hbk.size)).mono hbr.size)
      have hbw := hb0.trans ((hba.trans (hbX.mono hba.size)).mono hw0)
      by_cases hq : grfE a = 0
      case neg =>
        have HE := Lib.hid (P1.out hq)
        have HEV : Hid (errV (grfE a) = .iface 122 (.int .i64 (grfE a))) := errV_some hq
        rw [errV_some hq]
        clear hq HOF HCA HCB
        go_wp2_with fail
        go_ret2
        exact ⟨_, [], by rw [HE.out.1, HEV.out]; rfl, by rw [HE.out.2]; exact OpsW.nil hbw.size, hbw⟩
      have HS : Hid ((1 ≤ 1 → grfE a = 0) ∧ (2 ≤ 1 → grfE b = 0)) := ⟨fun _ => hq, fun h => by omega⟩
      rw [errV_zero hq]
      clear hq HOF HCA HCB
      go_wp2_with fail
      go_roundw
      case rel => exact ⟨1, by omega, rfl, hbX, HS⟩
      case measure => simp [intOf]
    · have hbk := (Below.refl wr.heap.size wr).alloc (Nat.le_refl _) (.cells #[.slice A3 b.nodes.length c3, .slice A4 b.ties.length c4] 25)
      obtain ⟨z0, z1⟩ := cell_box2 wr (.slice A3 b.nodes.length c3) (.slice A4 b.ties.length c4) 25
      have hx := HCB.out _ (hWr.trans (hbk.mono hWr.size))
      go_wp2_with fail
      refine hx.mono ?_
      clear hx z0 z1
      rintro e w4 ⟨rfl, hb4⟩
      have hbX := hbr.trans ((hbk.trans (hb4.mono hbk.size)).mono hbr.size)
      have hbw := hb0.trans ((hba.trans (hbX.mono hba.size)).mono hw0)
      by_cases hq : grfE b = 0
      case neg =>
        have HE := Lib.hid (P2.out (HP.out.1 (by omega)) hq)
        have HEV : Hid (errV (grfE b) = .iface 122 (.int .i64 (grfE b))) := errV_some hq
        rw [errV_some hq]
        clear hq HOF HCA HCB
        go_wp2_with fail
        go_ret2
        exact ⟨_, [], by rw [HE.out.1, HEV.out]; rfl, by rw [HE.out.2]; exact OpsW.nil hbw.size, hbw⟩
      have HS : Hid ((1 ≤ 2 → grfE a = 0) ∧ (2 ≤ 2 → grfE b = 0)) := ⟨fun _ => HP.out.1 (by omega), fun _ => hq⟩
      rw [errV_zero hq]
      clear hq HOF HCA HCB
      go_wp2_with fail
      go_roundw
      case rel => exact ⟨2, by omega, rfl, hbX, HS⟩
      case measure => simp [intOf]
    · have h1 := HP.out.1 (by omega)
      have h2 := HP.out.2 (by omega)
      have hx := HOF.out h1 h2 wr hWr
      have HE := Lib.hid (P3.out h1 h2)
      have x0 := cell_below hWr X0.out
      have x1 := cell_below hWr X1.out
      have y0 := cell_below hWr Y0.out
      have y1 := cell_below hWr Y1.out
      have hbw := hb0.trans (hWr.mono hw0)
      clear h1 h2 r0 r1 r2 r3 HOF HCA HCB
      go_wp2_with fail
      refine hx.mono ?_
      clear hx x0 x1 y0 y1
      rintro e w4 ⟨v, xs, rfl, hop, hb4⟩
      obtain ⟨Av, cv, hv, _, _⟩ := hop.o.form
      subst hv
      have HSL := Lib.hid hop
      clear hop
      go_wp2_with fail
      go_ret2
      exact ⟨_, _, by rw [HE.out.1]; rfl, by rw [HE.out.2]; exact ⟨HSL.out.o.mono hbw.size, HSL.out.r.mono hbw.size, Nat.le_trans hbw.size hb4.size⟩, hbw.trans (hb4.mono hbw.size)⟩
/-- Ops turned. -/
theorem turn_parts (g : Grf) (l : List Opr) : (dallE g l ≠ 0 → turnR g l = []) ∧ (dallE g l = 0 → turnR g l = diffL (dallG g l) g ∧ grfE g = 0 ∧ grfE (dallG g l) = 0) := by
  refine ⟨fun h => by unfold turnR; rw [if_neg h], fun h => ⟨by unfold turnR; rw [if_pos h], ?_⟩⟩
  have h1 := h
  unfold dallE at h1
  split at h1
  · simp at h1
  · split at h1
    · rename_i _ h2
      refine ⟨h2, ?_⟩
      unfold dallG
      rw [if_pos h]
      exact all_right h2 h1
    · rename_i _ h2; exact absurd h1 h2
set_option maxRecDepth 100000 in
set_option maxHeartbeats 8000000 in
theorem turn_ops (g : Grf) (l : List Opr) (vn vt vl : Value) (w : World) (hG : GrfR w vn vt g) (hL : Sl oprL w vl l) :
    Calls Tryz.prog 15 #[.agg #[vn, vt], vl] w (RetOps (turnR g l) (dallE g l) w) := by
  obtain ⟨A1, c1, rfl, _, _⟩ := hG.1.form
  obtain ⟨A2, c2, rfl, _, _⟩ := hG.2.form
  obtain ⟨Al, cl, rfl, _, _⟩ := hL.form
  have hb0 : Below w.heap.size w (w.alloc (.cells #[.slice A1 g.nodes.length c1, .slice A2 g.ties.length c2] 25)) := (Below.refl _ _).alloc (Nat.le_refl _) _
  obtain ⟨x0, x1⟩ := cell_box2 w (.slice A1 g.nodes.length c1) (.slice A2 g.ties.length c2) 25
  have hx := dall_any g l _ _ _ _ (hG.below hb0) (hL.below hb0)
  have HG := Lib.hid hG
  obtain ⟨p1, p2⟩ := turn_parts g l
  have P1 := Lib.hid p1
  have P2 := Lib.hid p2
  unfold RetOps
  unfold RetA at hx
  have HOF : Hid (dallE g l = 0 → ∀ (vn vt : Value) W, Below w.heap.size w W → GrfR W vn vt (dallG g l) → Calls Tryz.prog 57 #[.agg #[vn, vt], .agg #[.slice A1 g.nodes.length c1, .slice A2 g.ties.length c2]] W fun e w' => ∃ v xs, e = .returned v ∧ OpsW W.heap.size w' v (turnR g l) xs ∧ Below W.heap.size W w') := fun h vn vt W hb hr => by
    obtain ⟨h1, h2, h3⟩ := p2 h
    rw [h1]
    exact of_ops _ _ _ _ _ _ W hr (HG.out.below hb) h3 h2
  generalize dallE g l = de at *
  generalize dallG g l = og at *
  generalize dallI g l = oi at *
  generalize turnR g l = tr at *
  clear hG hL p1 p2 P2
  go_enter Tryz.func15, Tryz.ntmps15
  go_wp2_with fail
  refine hx.mono ?_
  clear hx
  rintro e w1 ⟨un, ut, rfl, hr, hb1⟩
  obtain ⟨A3, c3, rfl, _, _⟩ := hr.1.form
  obtain ⟨A4, c4, rfl, _, _⟩ := hr.2.form
  have HR := Lib.hid hr
  have x0 := cell_below hb1 x0
  have x1 := cell_below hb1 x1
  have hb2 := hb0.trans (hb1.mono hb0.size)
  clear hr hb1
  go_upto_region 2 with fail
  obtain ⟨y0, y1⟩ := cell_box2 w1 (.slice A3 og.nodes.length c3) (.slice A4 og.ties.length c4) 25
  have hba : Below w1.heap.size w1 (w1.alloc (.cells #[.slice A3 og.nodes.length c3, .slice A4 og.ties.length c4] 25)) := (Below.refl _ _).alloc (Nat.le_refl _) _
  generalize w1.alloc (.cells #[.slice A3 og.nodes.length c3, .slice A4 og.ties.length c4] 25) = w2 at *
  have x0 := cell_below hba x0
  have x1 := cell_below hba x1
  have hb3 := hb2.trans (hba.mono hb2.size)
  by_cases hz : de = 0
  case neg =>
    have HE := Lib.hid (P1.out hz)
    have HEV : Hid (errV de = .iface 122 (.int .i64 de)) := errV_some hz
    rw [errV_some hz]
    clear hz HOF
    go_wp2_with fail
    go_ret2
    exact ⟨_, [], by rw [HEV.out]; rfl, by rw [HE.out]; exact OpsW.nil hb3.size, hb3⟩
  have hx := HOF.out hz _ _ w2 hb3 (HR.out.below hba)
  have HEV : Hid (errV de = .nilIface) := errV_zero hz
  rw [errV_zero hz]
  clear hz HOF P1
  go_wp2_with fail
  refine hx.mono ?_
  clear hx x0 x1 y0 y1
  rintro e w4 ⟨v, xs, rfl, hop, hb4⟩
  obtain ⟨Av, cv, hv, _, _⟩ := hop.o.form
  subst hv
  have HSL := Lib.hid hop
  clear hop
  go_wp2_with fail
  go_ret2
  exact ⟨_, _, by rw [HEV.out]; rfl, ⟨HSL.out.o.mono hb3.size, HSL.out.r.mono hb3.size, Nat.le_trans hb3.size hb4.size⟩, hb3.trans (hb4.mono hb3.size)⟩
end Go.Proofs.YtngbbefpphinjaaGreatDoor
