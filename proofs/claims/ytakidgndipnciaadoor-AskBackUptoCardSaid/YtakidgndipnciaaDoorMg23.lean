/- Parts: SmT. -/
import Derived.Test.YtakidgndipnciaaDoorMg20
/- Contract: kinsame.Steps: two paths that read as one list are the same. No condition. -/
namespace Go.Proofs.YtakidgndipnciaaDoor
open Go Go.RowKit




theorem tst_guard (op : BinOp) (a b : Operand) (xs ys : Array Value) (w : World) : (eqGuard op 40 a b (.agg xs) (.agg ys)).run Tryd.prog w = .ok () w := run_eqGuard_agg w op 40 a b xs ys (by kernel_rfl)
set_option maxRecDepth 100000 in
theorem tstq_same (d : Nat) (x y : Tst) (w : World) : (Op.equalIn (d + 3) 40 (.agg #[.string x.name, .int .i64 x.how, .int .i64 x.v.ty, .int .i64 x.v.n, .string x.v.s]) (.agg #[.string y.name, .int .i64 y.how, .int .i64 y.v.ty, .int .i64 y.v.n, .string y.v.s])).run Tryd.prog w = .ok (decide (x = y)) w := by
  have hS : Tryd.prog.underlying 40 = some (.struct (Tryd.prog.fieldsOf 40)) := by kernel_rfl
  have hp : Tryd.prog.stoodInHeld 40 = false := by kernel_rfl
  have hv := valq_same d x.v y.v w
  have e1 := Tryd.underlying9
  have e2 := Tryd.underlying3
  have e3 := Tryd.underlying38
  have HV := Lib.hid hv
  clear hv
  rw [run_equalIn_agg w (d + 2) 40 _ _ hS hp]
  simp only [Program.fieldsOf, Tryd.underlying40]
  clear hS hp
  go_simp
  clear HV
  simp only [bytes_eq]
  cases x with | mk f g v => cases y with | mk f' g' v' =>
  cases v; cases v'
  simp only [Tst.mk.injEq, Val.mk.injEq]
  rename_i a b c a' b' c'
  by_cases h0 : f = f' <;> by_cases h4 : g = g' <;> by_cases h1 : a = a' <;> by_cases h2 : b = b' <;> by_cases h3 : c = c' <;> simp [h0, h1, h2, h3, h4]
theorem tstq_neq (x y : Tst) (w : World) : (binOp .neq 40 (.agg #[.string x.name, .int .i64 x.how, .int .i64 x.v.ty, .int .i64 x.v.n, .string x.v.s]) (.agg #[.string y.name, .int .i64 y.how, .int .i64 y.v.ty, .int .i64 y.v.n, .string y.v.s])).run Tryd.prog w = .ok (.bool (!decide (x = y))) w := by
  rw [run_neq_struct, show (10000 : Nat) = 9997 + 3 from rfl, tstq_same]; rfl
set_option maxRecDepth 100000 in
set_option maxHeartbeats 8000000 in
theorem steps_same (l : List Stp) (v1 v2 : Value) (w : World) (h1 : Sl stpL w v1 l) (h2 : Sl stpL w v2 l) :
    Calls Tryd.prog 9 #[v1, v2] w fun e w' => e = .returned (.bool true) ∧ Below w.heap.size w w' := by
  obtain ⟨A1, c1, rfl, _, hc1⟩ := h1.form
  obtain ⟨A2, c2, rfl, _, hc2⟩ := h2.form
  unfold maxLen at hc1 hc2
  have HL1 := Lib.hid h1
  have HL2 := Lib.hid h2
  clear h1 h2
  go_enter Tryd.func9, Tryd.ntmps9
  go_wp2_with fail
  -- a loop: the mask [.k, .k, .k, .k, .y 4, .a, .y 6, .y 7, .y 8, .k, .k, .k, .k, .k, .y 14, .y 15, .y 16, .y 17, .y 18, .y 19, .y 20, .y 21, .y 22, .y 23, .y 24, .y 25, .y 26, .y 27, .y 28, .y 29, .y 30, .y 31, .y 32, .y 33, .y 34, .y 35, .y 36, .y 37, .y 38, .y 39, .y 40, .y 41, .y 42, .y 43, .y 44, .y 45, .y 46, .y 47, .y 48, .y 49, .y 50, .y 51, .y 52, .y 53, .y 54, .y 55, .y 56, .y 57, .y 58, .y 59, .y 60, .y 61, .y 62, .y 63, .y 64, .y 65, .y 66, .y 67, .y 68, .y 69, .y 70, .y 71, .y 72, .y 73], the slots 5 0 0 0, the relation fun i _ _ _ wr => ∃ k : Nat, k ≤ l.length ∧ i = .int .i64 k ∧ Hid (Below w.heap.size w wr), the measure fun i _ _ _ _ => l.length - (intOf i).toNat
  apply wp_loopm [.k, .k, .k, .k, .y 4, .a, .y 6, .y 7, .y 8, .k, .k, .k, .k, .k, .y 14, .y 15, .y 16, .y 17, .y 18, .y 19, .y 20, .y 21, .y 22, .y 23, .y 24, .y 25, .y 26, .y 27, .y 28, .y 29, .y 30, .y 31, .y 32, .y 33, .y 34, .y 35, .y 36, .y 37, .y 38, .y 39, .y 40, .y 41, .y 42, .y 43, .y 44, .y 45, .y 46, .y 47, .y 48, .y 49, .y 50, .y 51, .y 52, .y 53, .y 54, .y 55, .y 56, .y 57, .y 58, .y 59, .y 60, .y 61, .y 62, .y 63, .y 64, .y 65, .y 66, .y 67, .y 68, .y 69, .y 70, .y 71, .y 72, .y 73] 5 0 0 0 (by decide +kernel) rfl (fun i _ _ _ wr => ∃ k : Nat, k ≤ l.length ∧ i = .int .i64 k ∧ Hid (Below w.heap.size w wr)) (fun i _ _ _ _ => l.length - (intOf i).toNat) _ _ _ _ rfl rfl rfl rfl
  case start => exact ⟨0, Nat.zero_le _, rfl, Below.refl _ _⟩
  case round =>
    -- a round: the names u5 _ _ _ (four), the world's name
    intro ff u5 _ _ _ wr hrel
    dsimp only [spread]
    obtain ⟨k, hk, rfl, HB⟩ := hrel
    obtain ⟨wo, hwo⟩ : ∃ wo : World, wo = wr := ⟨_, rfl⟩
    subst hwo
    by_cases hlt : k < l.length
    case neg =>
      obtain rfl : k = l.length := by omega
      clear hlt
      go_wp2_with fail
      go_ret
      exact ⟨rfl, HB.out⟩
    obtain ⟨d, hd⟩ : ∃ d, l[k]? = some d := ⟨_, List.getElem?_eq_getElem hlt⟩
    have hlt' : (k : Int) < (l.length : Int) := by omega
    have HLT := Lib.hid hlt
    obtain ⟨g1, o1, rfl, u1, _, _, ht1, a0, a1, a2, a3⟩ := stp_at (HL1.out.below HB.out) hd
    obtain ⟨g2, o2, rfl, u2, _, _, ht2, b0, b1, b2, b3⟩ := stp_at (HL2.out.below HB.out) hd
    obtain ⟨A3, c3, rfl, _, hc3⟩ := ht1.form
    obtain ⟨A4, c4, rfl, _, hc4⟩ := ht2.form
    unfold maxLen at hc3 hc4
    have ha := (Below.refl wo.heap.size wo).alloc (Nat.le_refl _) (.cells #[.string d.bond, .bool d.back, .string d.kind, .slice A3 d.tests.length c3] 30)
    have hx1 := heap_alloc_new wo (.cells #[.string d.bond, .bool d.back, .string d.kind, .slice A3 d.tests.length c3] 30)
    have b0 := cell_below ha b0
    have b1 := cell_below ha b1
    have b2 := cell_below ha b2
    have b3 := cell_below ha b3
    have HT1 := Lib.hid (ht1.below ha)
    have HT2 := Lib.hid (ht2.below ha)
    clear hd ht1 ht2
    go_upto_region 7 with fail
    clear a0 a1 a2 a3
    obtain ⟨q1, hq1⟩ : ∃ q1, q1 = wo.heap.size := ⟨_, rfl⟩
    rw [← hq1] at hx1 ⊢
    have HB1 := Lib.hid (HB.out.trans (ha.mono HB.out.size))
    generalize wo.alloc (.cells #[.string d.bond, .bool d.back, .string d.kind, .slice A3 d.tests.length c3] 30) = w1 at *
    have ha2 := (Below.refl w1.heap.size w1).alloc (Nat.le_refl _) (.cells #[.string d.bond, .bool d.back, .string d.kind, .slice A4 d.tests.length c4] 30)
    have hx2 := heap_alloc_new w1 (.cells #[.string d.bond, .bool d.back, .string d.kind, .slice A4 d.tests.length c4] 30)
    have HX1 := Lib.hid ((ha2.block _ (Array.getElem?_eq_some_iff.1 hx1).1).trans hx1)
    have HT1 := Lib.hid (HT1.out.below ha2)
    have HT2 := Lib.hid (HT2.out.below ha2)
    have HB2 := Lib.hid (HB1.out.trans (ha2.mono HB1.out.size))
    clear hx1 ha hq1
    go_upto_region 8 with fail
    clear b0 b1 b2 b3 ha2
    generalize w1.heap.size = q2 at *
    generalize w1.alloc (.cells #[.string d.bond, .bool d.back, .string d.kind, .slice A4 d.tests.length c4] 30) = w2 at *
    have HX2 := Lib.hid hx2
    clear hx2
    have x0 := block_cell HX1.out 0
    have x1 := block_cell HX1.out 1
    have x2 := block_cell HX1.out 2
    have x3 := block_cell HX1.out 3
    have y0 := block_cell HX2.out 0
    have y1 := block_cell HX2.out 1
    have y2 := block_cell HX2.out 2
    have y3 := block_cell HX2.out 3
    obtain ⟨n, hn⟩ : ∃ n, n = d.tests.length := ⟨_, rfl⟩
    go_upto_region 10 with fail
    clear x0 x1 x2 y0 y1 y2
    go_wp2_with fail
    -- a loop: the mask [.k, .k, .k, .k, .y 4, .k, .k, .k, .a, .k, .k, .k, .k, .k, .k, .k, .k, .k, .k, .k, .k, .k, .k, .k, .k, .k, .k, .k, .k, .k, .k, .k, .k, .k, .k, .k, .k, .k, .k, .k, .k, .k, .k, .k, .k, .k, .k, .k, .k, .k, .k, .k, .k, .k, .k, .k, .y 56, .y 57, .y 58, .y 59, .y 60, .y 61, .y 62, .y 63, .y 64, .y 65, .y 66, .y 67, .y 68, .y 69, .y 70, .y 71, .y 72, .y 73], the slots 8 0 0 0, the relation fun i _ _ _ wr => ∃ j : Nat, j ≤ d.tests.length ∧ i = .int .i64 j ∧ Hid (Below w2.heap.size w2 wr), the measure fun i _ _ _ _ => d.tests.length - (intOf i).toNat
    apply wp_loopm [.k, .k, .k, .k, .y 4, .k, .k, .k, .a, .k, .k, .k, .k, .k, .k, .k, .k, .k, .k, .k, .k, .k, .k, .k, .k, .k, .k, .k, .k, .k, .k, .k, .k, .k, .k, .k, .k, .k, .k, .k, .k, .k, .k, .k, .k, .k, .k, .k, .k, .k, .k, .k, .k, .k, .k, .k, .y 56, .y 57, .y 58, .y 59, .y 60, .y 61, .y 62, .y 63, .y 64, .y 65, .y 66, .y 67, .y 68, .y 69, .y 70, .y 71, .y 72, .y 73] 8 0 0 0 (by decide +kernel) rfl (fun i _ _ _ wr => ∃ j : Nat, j ≤ d.tests.length ∧ i = .int .i64 j ∧ Hid (Below w2.heap.size w2 wr)) (fun i _ _ _ _ => d.tests.length - (intOf i).toNat) _ _ _ _ rfl rfl rfl rfl
    case start => exact ⟨0, Nat.zero_le _, rfl, Below.refl _ _⟩
    case round =>
      -- a round: the names u8 _ _ _ (four), the world's name
      intro ff u8 _ _ _ wr hrel
      dsimp only [spread]
      clear x3 y3
      obtain ⟨j, hj, rfl, HBj⟩ := hrel
      obtain ⟨wj, hwj⟩ : ∃ wo : World, wo = wr := ⟨_, rfl⟩
      subst hwj
      have x3 := cell_below HBj.out (block_cell HX1.out 3)
      have y3 := cell_below HBj.out (block_cell HX2.out 3)
      by_cases hjt : j < d.tests.length
      · obtain ⟨t, ht⟩ : ∃ t, d.tests[j]? = some t := ⟨_, List.getElem?_eq_getElem hjt⟩
        have hjt' : (j : Int) < (d.tests.length : Int) := by omega
        have HJT := Lib.hid hjt
        obtain ⟨g3, o3, rfl, _, c0, c1', c2', c3', c4'⟩ := tst_at (HT1.out.below HBj.out) ht
        obtain ⟨g4, o4, rfl, _, e0, e1, e2, e3, e4⟩ := tst_at (HT2.out.below HBj.out) ht
        have hneq := tstq_neq t t
        have hgd := tst_guard
        rw [decide_eq_true rfl] at hneq
        clear ht
        go_wp2_with fail
        go_quiet (fail)
        go_wp2_with fail
        -- a round's end: the relation, the measure
        apply Rounded.at _ _ _ _ _ rfl rfl rfl rfl rfl rfl
        case rel => exact ⟨j + 1, HJT.out, by go_num, HBj.out.trans (Go.below_drewN (Below.refl _ _) _)⟩
        case measure => simp [intOf]; have := HJT.out; omega
      · obtain rfl : j = d.tests.length := by omega
        clear hjt
        go_wp2_with fail
        -- a round's end: the relation, the measure
        apply Rounded.at _ _ _ _ _ rfl rfl rfl rfl rfl rfl
        case rel => exact ⟨k + 1, HLT.out, by go_num, HB2.out.trans (HBj.out.mono HB2.out.size)⟩
        case measure => simp [intOf]; have := HLT.out; omega
end Go.Proofs.YtakidgndipnciaaDoor
