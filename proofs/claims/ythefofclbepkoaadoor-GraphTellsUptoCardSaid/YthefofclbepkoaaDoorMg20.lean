/- Parts: GtP, GtB, GtC. -/
import Derived.Test.YthefofclbepkoaaDoorMg18
import Derived.Test.YthefofclbepkoaaDoorMg19
import Derived.Test.YthefofclbepkoaaDoorMg17
import Derived.Deep.DeepCutAuto
/- Plain: where a node of a number is; the next number. No condition. -/
namespace Go.Proofs.YthefofclbepkoaaDoor
open Go Go.RowKit

theorem rf_neg {g : Grf} {id : Int} (h : grfE g = 0) (hn : rfI g.nodes id < 0) : nodeE g id = 5 := by
  have hch := (grf_ok h).2.2.1
  unfold nodeE
  rw [if_pos h, ids_has hch]
  have hno : id ∉ idsN g.nodes := fun hm => by
    obtain ⟨n, hn1, hn2⟩ := List.mem_map.1 hm
    obtain ⟨i, hi⟩ := List.mem_iff_getElem?.1 hn1
    unfold rfI idxI at hn
    split at hn
    · omega
    · rename_i hf
      rw [List.findIdx?_eq_none_iff] at hf
      have := hf n hn1
      simp [hn2] at this
  simp [hno]
theorem rf_pos {g : Grf} {id : Int} (h : grfE g = 0) (hn : 0 ≤ rfI g.nodes id) : ∃ (i : Nat) (n : Nod), rfI g.nodes id = i ∧ g.nodes[i]? = some n ∧ nodeE g id = 0 ∧ nodeR g id = n := by
  have hch := (grf_ok h).2.2.1
  obtain ⟨i, n, h1, h2, h3, _⟩ := idxI_nonneg (p := fun n : Nod => decide (n.id = id)) (l := g.nodes) hn
  have h3 : n.id = id := of_decide_eq_true h3
  have hm : id ∈ idsN g.nodes := List.mem_map.2 ⟨n, List.mem_of_getElem? h2, h3⟩
  have hf : fhas g.nodes id = true := by rw [ids_has hch]; simpa using hm
  have hE : nodeE g id = 0 := by unfold nodeE; rw [if_pos h, hf]; rfl
  refine ⟨i, n, h1, h2, hE, ?_⟩
  unfold nodeR
  rw [if_pos hE]
  obtain ⟨m, hm2⟩ := fhas_some' hf
  have hmid : m.id = id := by
    unfold fhas eqAt at hf
    rw [hm2] at hf
    have : nodC id m = 0 := by simpa using hf
    unfold nodC at this
    exact cmpI_zero.1 this
  rw [hm2]
  show m = n
  rcases Nat.lt_trichotomy i (fpos g.nodes id) with hlt | heq | hgt
  · have := chain_lt2 hch hlt h2 hm2; omega
  · rw [← heq, h2] at hm2; injection hm2 with e; exact e.symm
  · have := chain_lt2 hch hgt hm2 h2; omega
theorem next_pos {g : Grf} (h : grfE g = 0) : 1 ≤ nextI g.nodes := by
  unfold nextI
  split
  · rename_i d hd
    have := ((grf_ok h).2.2.2 d (List.mem_of_getElem? hd)).1
    unfold idB at this
    simp at this
    omega
  · omega
theorem next_ok {g : Grf} (h : grfE g = 0) (hn : nextI g.nodes ≤ 1000) : nextE g = 0 ∧ nextN g = nextI g.nodes := by
  have h1 := next_pos h
  have h2 : nextE g = 0 := by
    unfold nextE
    rw [if_pos h, if_pos]
    unfold idB; simp [h1, hn]
  exact ⟨h2, by unfold nextN; rw [if_pos h2]⟩
theorem next_full {g : Grf} (h : grfE g = 0) (hn : 1000 < nextI g.nodes) : nextE g = 4 ∧ nextN g = 0 := by
  have h2 : nextE g = 4 := by
    unfold nextE
    rw [if_pos h, if_neg]
    unfold idB
    have : ¬ nextI g.nodes ≤ 1000 := by omega
    simp [this]
  exact ⟨h2, by unfold nextN; rw [if_neg (by rw [h2]; omega)]⟩
theorem next_bad {g : Grf} (h : grfE g ≠ 0) : nextE g = grfE g ∧ nextN g = 0 := by
  have h2 : nextE g = grfE g := by unfold nextE; rw [if_neg h]
  exact ⟨h2, by unfold nextN; rw [if_neg (by rw [h2]; exact h)]⟩
theorem node_bad {g : Grf} {id : Int} (h : grfE g ≠ 0) : nodeE g id = grfE g := by unfold nodeE; rw [if_neg h]
theorem nodeR_bad {g : Grf} {id : Int} (h : nodeE g id ≠ 0) : nodeR g id = zeroN := by unfold nodeR; rw [if_neg h]
theorem endsR_bad {g : Grf} {id : Int} (h : nodeE g id ≠ 0) (bond : ByteArray) (back : Bool) : endsR g id bond back = [] := by unfold endsR; rw [if_neg h]
theorem endsR_ok {g : Grf} {id : Int} (h : nodeE g id = 0) (bond : ByteArray) (back : Bool) : endsR g id bond back = endsS g id bond back := by unfold endsR; rw [if_pos h]
end Go.Proofs.YthefofclbepkoaaDoor

/- Contracts: kinsame.Graph, graph.Equal, slices.EqualFunc at nodes, graph.Same. No condition. -/
namespace Go.Proofs.YthefofclbepkoaaDoor
open Go Go.RowKit



theorem pair_step {D : Type} {a b : List D} {k : Nat} {x y : D} (h : ∀ j x y, j < k → a[j]? = some x → b[j]? = some y → x = y) (hx : a[k]? = some x) (hy : b[k]? = some y) (hq : x = y) : ∀ j x y, j < k + 1 → a[j]? = some x → b[j]? = some y → x = y := fun j p q hj hp hq2 => by
  by_cases hjk : j = k
  · subst hjk
    have e1 := hx.symm.trans hp
    have e2 := hy.symm.trans hq2
    injection e1 with e1; injection e2 with e2
    rw [← e1, ← e2]; exact hq
  · exact h j p q (by omega) hp hq2
theorem pair_no {D : Type} {a b : List D} {k : Nat} {x y : D} (hx : a[k]? = some x) (hy : b[k]? = some y) (hq : ¬ x = y) : ¬ a = b := fun e => by
  rw [e, hy] at hx
  injection hx with e1
  exact hq e1.symm
set_option maxRecDepth 100000 in
set_option maxHeartbeats 8000000 in
theorem sgraph_any (a b : Grf) (k1 b1 k2 b2 : Value) (w : World) (h1 : GrfR w k1 b1 a) (h2 : GrfR w k2 b2 b) :
    Calls Tryd.prog 28 #[.agg #[k1, b1], .agg #[k2, b2]] w fun e w' => e = .returned (.bool (decide (a = b))) ∧ Below w.heap.size w w' := by
  obtain ⟨A1, c1, rfl, _, hm1⟩ := h1.1.form
  obtain ⟨A2, c2, rfl, _, hm2⟩ := h1.2.form
  obtain ⟨A3, c3, rfl, _, hm3⟩ := h2.1.form
  obtain ⟨A4, c4, rfl, _, hm4⟩ := h2.2.form
  unfold maxLen at hm1 hm2 hm3 hm4
  obtain ⟨W0, hW0⟩ : ∃ W0, W0 = (w.alloc (.cells #[.slice A1 a.nodes.length c1, .slice A2 a.ties.length c2] 47)).alloc (.cells #[.slice A3 b.nodes.length c3, .slice A4 b.ties.length c4] 47) := ⟨_, rfl⟩
  have hb0 : Below w.heap.size w W0 := by rw [hW0]; exact ((Below.refl _ _).alloc (Nat.le_refl _) _).alloc (by simp) _
  have g0 : W0.heap[w.heap.size]? = some (.cells #[.slice A1 a.nodes.length c1, .slice A2 a.ties.length c2] 47 (0, 0)) := by
    rw [hW0, Below.heap_alloc _ _ _ (by simp)]; exact heap_alloc_new _ _
  have g1 : W0.heap[w.heap.size + 1]? = some (.cells #[.slice A3 b.nodes.length c3, .slice A4 b.ties.length c4] 47 (0, 0)) := by
    have := heap_alloc_new (w.alloc (.cells #[.slice A1 a.nodes.length c1, .slice A2 a.ties.length c2] 47)) (.cells #[.slice A3 b.nodes.length c3, .slice A4 b.ties.length c4] 47); rw [hW0]; simpa using this
  have hW0' := hW0.symm
  have hw0 := hb0.size
  have X0 := Lib.hid (block_cell g0 0)
  have X1 := Lib.hid (block_cell g0 1)
  have Y0 := Lib.hid (block_cell g1 0)
  have Y1 := Lib.hid (block_cell g1 1)
  have H1 := Lib.hid (h1.below hb0)
  have H2 := Lib.hid (h2.below hb0)
  have HNN : Hid (¬ a.nodes = b.nodes → decide (a = b) = false) := fun h => decide_eq_false fun e => h (by rw [e])
  have HNT : Hid (¬ a.ties = b.ties → decide (a = b) = false) := fun h => decide_eq_false fun e => h (by rw [e])
  have HEQ : Hid (a.nodes = b.nodes → a.ties = b.ties → decide (a = b) = true) := fun h h' => decide_eq_true (by cases a; cases b; cases h; cases h'; rfl)
  have x0 := X0.out
  have x1 := X1.out
  have y0 := Y0.out
  have y1 := Y1.out
  clear h1 h2 g0 g1 hW0
  generalize decide (a = b) = E at *
  by_cases hl : a.nodes.length = b.nodes.length
  case neg =>
    have HE : Hid (E = false) := HNN.out fun e => hl (by rw [e])
    have hl2 : ((a.nodes.length : Int) != (b.nodes.length : Int)) = true := by rw [bne_iff_ne]; omega
    have hl3 : (a.nodes.length != b.nodes.length) = true := by rw [bne_iff_ne]; omega
    clear hl
    go_enter Tryd.func28, Tryd.ntmps28
    go_wp2_with fail
    go_ret
    exact ⟨by rw [HE.out]; rfl, hb0⟩
  have hl2 : ((a.nodes.length : Int) != (b.nodes.length : Int)) = false := by rw [bne_eq_false_iff_eq]; omega
  have hl3 : (a.nodes.length != b.nodes.length) = false := by rw [bne_eq_false_iff_eq]; omega
  by_cases ht : a.ties.length = b.ties.length
  case neg =>
    have HE : Hid (E = false) := HNT.out fun e => ht (by rw [e])
    have ht2 : ((a.ties.length : Int) != (b.ties.length : Int)) = true := by rw [bne_iff_ne]; omega
    have ht3 : (a.ties.length != b.ties.length) = true := by rw [bne_iff_ne]; omega
    clear hl ht
    go_enter Tryd.func28, Tryd.ntmps28
    go_wp2_with fail
    go_ret
    exact ⟨by rw [HE.out]; rfl, hb0⟩
  have ht2 : ((a.ties.length : Int) != (b.ties.length : Int)) = false := by rw [bne_eq_false_iff_eq]; omega
  have ht3 : (a.ties.length != b.ties.length) = false := by rw [bne_eq_false_iff_eq]; omega
  have HL := Lib.hid hl
  have HT := Lib.hid ht
  clear hl ht
  go_enter Tryd.func28, Tryd.ntmps28
  go_wp2_with fail
  clear hW0' hl2 hl3 ht2 ht3 x1 y1
  go_loopw [5] (fun i wr => ∃ k : Nat, k ≤ a.nodes.length ∧ i = .int .i64 k ∧ Below W0.heap.size W0 wr ∧ Hid (∀ j x y, j < k → a.nodes[j]? = some x → b.nodes[j]? = some y → x = y)) (fun i _ => a.nodes.length - (intOf i).toNat)
  case atStart => exact ⟨0, Nat.zero_le _, rfl, Below.refl _ _, fun j x y hj => absurd hj (Nat.not_lt_zero _)⟩
  case round =>
    clear x0 y0
    obtain ⟨k, hk, rfl, hbr, HA⟩ := hrel
    have x0 := cell_below hbr X0.out
    have hB := hb0.trans (hbr.mono hw0)
    by_cases hlt : k < a.nodes.length
    · have y0 := cell_below hbr Y0.out
      obtain ⟨x, hx⟩ : ∃ d, a.nodes[k]? = some d := ⟨_, List.getElem?_eq_getElem hlt⟩
      obtain ⟨y, hy⟩ : ∃ d, b.nodes[k]? = some d := ⟨_, List.getElem?_eq_getElem (by have := HL.out; omega)⟩
      have hlt' : (k : Int) < (a.nodes.length : Int) := by omega
      have hlt2 : (k : Int) < (b.nodes.length : Int) := by have := HL.out; omega
      obtain ⟨p1, q1, rfl, u1, _, _, hu1, x2, x3, x4⟩ := nod_at (H1.out.below hbr).1 hx
      obtain ⟨p2, q2, rfl, u2, _, _, hu2, y2, y3, y4⟩ := nod_at (H2.out.below hbr).1 hy
      have HNO : Hid (decide (x = y) = false → E = false) := fun h => HNN.out (pair_no hx hy (of_decide_eq_false h))
      have HYES : Hid (decide (x = y) = true → ∀ j x y, j < k + 1 → a.nodes[j]? = some x → b.nodes[j]? = some y → x = y) := fun h => pair_step HA.out hx hy (of_decide_eq_true h)
      have HC : Hid (∀ W, Below wr.heap.size wr W → Calls Tryd.prog 22 #[.agg #[.int .i64 x.id, .string x.kind, u1], .agg #[.int .i64 y.id, .string y.kind, u2]] W fun e w' => e = .returned (.bool (decide (x = y))) ∧ Below W.heap.size W w') := fun W h => snode_any x y _ _ W (hu1.below h) (hu2.below h)
      obtain ⟨B1, d1, rfl, _, _⟩ := hu1.form
      obtain ⟨B2, d2, rfl, _, _⟩ := hu2.form
      clear hx hy hu1 hu2 HA
      generalize decide (x = y) = qq at *
      go_wp2_with fail
      refine wp_mid_k 10 _ rfl rfl (by kernel_rfl) (by kernel_rfl) ?_
      simp only [List.take_succ_cons, List.take_zero, List.drop_succ_cons, List.drop_zero]
      repeat (go_big_quiet_step (fail))
      refine wpQuiet_nil ?_
      intro _ hw'
      obtain ⟨nq, hw''⟩ := hw'
      subst hw''
      intro K hK
      have hbq := below_drewN (Below.refl wr.heap.size wr) nq
      have hc := HC.out (wr.drewN nq) hbq
      clear HC
      go_wp2_with fail
      refine hc.mono ?_
      clear hc
      rintro e w3 ⟨rfl, hb3⟩
      have hb13 := hbq.trans hb3
      refine hK _ _ ?_
      repeat (go_big_quiet_step (fail))
      refine wpQuiet_nil ?_
      intro _ hw'
      obtain ⟨nq2, hw''⟩ := hw'
      subst hw''
      clear hK
      have hbX := below_drewN hb13 nq2
      generalize w3.drewN nq2 = w4 at *
      have hb4 := hbr.trans (hbX.mono hbr.size)
      have hB4 := hB.trans (hbX.mono hB.size)
      clear hbq hb3 hb13 hbX x0 y0 x2 x3 x4 y2 y3 y4
      cases qq with
      | false =>
        have HE : Hid (E = false) := HNO.out rfl
        clear HNO HYES
        go_wp2_with fail
        go_ret
        exact ⟨by rw [HE.out]; rfl, hB4⟩
      | true =>
        have HS := Lib.hid (HYES.out rfl)
        clear HNO HYES
        go_wp2_with fail
        go_roundw
        case rel => exact ⟨k + 1, by omega, by go_num, hb4, HS⟩
        case measure => simp [intOf]; omega
    · obtain rfl : k = a.nodes.length := by omega
      have HEN : Hid (a.nodes = b.nodes) := lists_eq HL.out HA.out
      have x1 := cell_below hbr X1.out
      clear hlt hk HA
      obtain ⟨wo, rfl⟩ : ∃ wo : World, wo = wr := ⟨_, rfl⟩
      go_wp2_with fail
      go_loopw [7] (fun i wr => ∃ k : Nat, k ≤ a.ties.length ∧ i = .int .i64 k ∧ Below W0.heap.size W0 wr ∧ Hid (∀ j x y, j < k → a.ties[j]? = some x → b.ties[j]? = some y → x = y)) (fun i _ => a.ties.length - (intOf i).toNat)
      case atStart => exact ⟨0, Nat.zero_le _, rfl, hbr, fun j x y hj => absurd hj (Nat.not_lt_zero _)⟩
      case round =>
        clear x0 x1 hbr hB
        obtain ⟨k, hk, rfl, hbr, HA⟩ := hrel
        have x1 := cell_below hbr X1.out
        have hB := hb0.trans (hbr.mono hw0)
        by_cases hlt : k < a.ties.length
        · have y1 := cell_below hbr Y1.out
          obtain ⟨x, hx⟩ : ∃ d, a.ties[k]? = some d := ⟨_, List.getElem?_eq_getElem hlt⟩
          obtain ⟨y, hy⟩ : ∃ d, b.ties[k]? = some d := ⟨_, List.getElem?_eq_getElem (by have := HT.out; omega)⟩
          have hlt' : (k : Int) < (a.ties.length : Int) := by omega
          have hlt2 : (k : Int) < (b.ties.length : Int) := by have := HT.out; omega
          obtain ⟨p1, q1, rfl, _, x2, x3, x4⟩ := tie_at (H1.out.below hbr).2 hx
          obtain ⟨p2, q2, rfl, _, y2, y3, y4⟩ := tie_at (H2.out.below hbr).2 hy
          have hneq := tie_neq x y
          have hgd := tie_guard
          by_cases hq : x = y
          · have HS := Lib.hid (pair_step HA.out hx hy hq)
            rw [decide_eq_true hq] at hneq
            clear hx hy hq HA
            go_wp2_with fail
            go_quiet (fail)
            go_wp2_with fail
            go_roundw
            case rel => exact ⟨k + 1, by omega, by go_num, below_drewN hbr _, HS⟩
            case measure => simp [intOf]; omega
          · have HE : Hid (E = false) := HNT.out (pair_no hx hy hq)
            rw [decide_eq_false hq] at hneq
            clear hx hy hq HA
            go_wp2_with fail
            go_quiet (fail)
            go_wp2_with fail
            go_ret
            exact ⟨by rw [HE.out]; rfl, below_drewN hB _⟩
        · obtain rfl : k = a.ties.length := by omega
          have HE : Hid (E = true) := HEQ.out HEN.out (lists_eq HT.out HA.out)
          clear HA
          go_wp2_with fail
          go_ret
          exact ⟨by rw [HE.out]; rfl, hB⟩
end Go.Proofs.YthefofclbepkoaaDoor

/- Contracts: graph.Equal, slices.EqualFunc at nodes, graph.Same. No condition. -/
namespace Go.Proofs.YthefofclbepkoaaDoor
open Go Go.RowKit




theorem nod_eqB2 (a b : Nod) : decide (a = b) = (decide (a.id = b.id) && decide (a.kind = b.kind) && decide (a.props = b.props)) := by
  rw [nod_eqB]
  cases decide (a.props = b.props) <;> cases decide (a.id = b.id) <;> cases decide (a.kind = b.kind) <;> rfl
set_option maxHeartbeats 2000000 in
theorem gequal_any (a b : Nod) (u1 u2 : Value) (w : World) (f1 : Sl prpL w u1 a.props) (f2 : Sl prpL w u2 b.props) :
    Calls Tryd.prog 66 #[.agg #[.int .i64 a.id, .string a.kind, u1], .agg #[.int .i64 b.id, .string b.kind, u2]] w fun e w' => e = .returned (.bool (decide (a = b))) ∧ Below w.heap.size w w' := by
  obtain ⟨A1, c1, rfl, _, _⟩ := f1.form
  obtain ⟨A2, c2, rfl, _, _⟩ := f2.form
  obtain ⟨W0, hW0⟩ : ∃ W0, W0 = (w.alloc (.cells #[.int .i64 a.id, .string a.kind, .slice A1 a.props.length c1] 56)).alloc (.cells #[.int .i64 b.id, .string b.kind, .slice A2 b.props.length c2] 56) := ⟨_, rfl⟩
  have hb0 : Below w.heap.size w W0 := by rw [hW0]; exact ((Below.refl _ _).alloc (Nat.le_refl _) _).alloc (by simp) _
  have g0 : W0.heap[w.heap.size]? = some (.cells #[.int .i64 a.id, .string a.kind, .slice A1 a.props.length c1] 56 (0, 0)) := by
    rw [hW0, Below.heap_alloc _ _ _ (by simp)]; exact heap_alloc_new _ _
  have g1 : W0.heap[w.heap.size + 1]? = some (.cells #[.int .i64 b.id, .string b.kind, .slice A2 b.props.length c2] 56 (0, 0)) := by
    have := heap_alloc_new (w.alloc (.cells #[.int .i64 a.id, .string a.kind, .slice A1 a.props.length c1] 56)) (.cells #[.int .i64 b.id, .string b.kind, .slice A2 b.props.length c2] 56); rw [hW0]; simpa using this
  have hW0' := hW0.symm
  have hw0 := hb0.size
  have x0 := block_cell g0 0
  have x1 := block_cell g0 1
  have x2 := block_cell g0 2
  have y0 := block_cell g1 0
  have y1 := block_cell g1 1
  have y2 := block_cell g1 2
  have hr := eqPrps_any a.props b.props _ _ W0 (f1.below hb0) (f2.below hb0)
  have HF := Lib.hid (nod_eqB2 a b)
  have hkb : (a.kind.toList == b.kind.toList) = decide (a.kind = b.kind) := bytes_beq a.kind b.kind
  clear f1 f2 g0 g1 hW0
  generalize decide (a.props = b.props) = q at *
  generalize decide (a = b) = E at *
  by_cases h1 : a.id = b.id
  case neg =>
    have HE : Hid (E = false) := by unfold Hid; rw [HF.out, decide_eq_false h1]; rfl
    have h1b : (a.id == b.id) = false := by rw [beq_eq_false_iff_ne]; exact h1
    clear HF h1
    go_enter Tryd.func66, Tryd.ntmps66
    go_wp2_with fail
    go_ret
    exact ⟨by rw [HE.out]; rfl, hb0⟩
  have h1b : (a.id == b.id) = true := by rw [beq_iff_eq]; exact h1
  by_cases h2 : a.kind = b.kind
  case neg =>
    have HE : Hid (E = false) := by unfold Hid; rw [HF.out, decide_eq_true h1, decide_eq_false h2]; rfl
    rw [decide_eq_false h2] at hkb
    have hkc : ¬ a.kind.toList = b.kind.toList := by rw [bytes_eq]; exact h2
    clear HF h1 h2
    go_enter Tryd.func66, Tryd.ntmps66
    go_wp2_with fail
    go_ret
    exact ⟨by rw [HE.out]; rfl, hb0⟩
  have HE : Hid (E = q) := by unfold Hid; rw [HF.out, decide_eq_true h1, decide_eq_true h2]; rfl
  rw [decide_eq_true h2] at hkb
  have hkc : a.kind.toList = b.kind.toList := by rw [h2]
  clear HF h1 h2
  go_enter Tryd.func66, Tryd.ntmps66
  go_wp2_with fail
  refine hr.mono ?_
  clear hr
  rintro e w1 ⟨rfl, hb1⟩
  go_wp2_with fail
  go_ret
  exact ⟨by rw [HE.out]; rfl, hb0.trans (hb1.mono hw0)⟩
set_option maxRecDepth 100000 in
set_option maxHeartbeats 4000000 in
theorem eqNods_any (a b : List Nod) (v1 v2 : Value) (w : World) (h1 : Sl nodL w v1 a) (h2 : Sl nodL w v2 b) :
    Calls Tryd.prog 65 #[v1, v2, .func (.func 66) #[] #[]] w fun e w' => e = .returned (.bool (decide (a = b))) ∧ Below w.heap.size w w' := by
  obtain ⟨A1, c1, rfl, _, hm1⟩ := h1.form
  obtain ⟨A2, c2, rfl, _, hm2⟩ := h2.form
  unfold maxLen at hm1 hm2
  have HNN : Hid (¬ a = b → decide (a = b) = false) := fun h => decide_eq_false h
  have HEQ : Hid (a = b → decide (a = b) = true) := fun h => decide_eq_true h
  have H1 := Lib.hid h1
  have H2 := Lib.hid h2
  clear h1 h2
  generalize decide (a = b) = E at *
  by_cases hl : a.length = b.length
  case neg =>
    have HE : Hid (E = false) := HNN.out fun e => hl (by rw [e])
    have hl2 : ((a.length : Int) != (b.length : Int)) = true := by rw [bne_iff_ne]; omega
    have hl3 : (a.length != b.length) = true := by rw [bne_iff_ne]; omega
    clear hl
    go_enter Tryd.func65, Tryd.ntmps65
    go_wp2_with fail
    go_ret
    exact ⟨by rw [HE.out]; rfl, Below.refl _ _⟩
  have hl2 : ((a.length : Int) != (b.length : Int)) = false := by rw [bne_eq_false_iff_eq]; omega
  have hl3 : (a.length != b.length) = false := by rw [bne_eq_false_iff_eq]; omega
  have HL := Lib.hid hl
  clear hl
  go_enter Tryd.func65, Tryd.ntmps65
  go_wp2_with fail
  clear hl2 hl3
  go_loopw [17] (fun i wr => ∃ k : Nat, k ≤ a.length ∧ i = .int .i64 k ∧ Below w.heap.size w wr ∧ Hid (∀ j x y, j < k → a[j]? = some x → b[j]? = some y → x = y)) (fun i _ => a.length - (intOf i).toNat)
  case atStart => exact ⟨0, Nat.zero_le _, rfl, Below.refl _ _, fun j x y hj => absurd hj (Nat.not_lt_zero _)⟩
  case round =>
    obtain ⟨k, hk, rfl, hbr, HA⟩ := hrel
    by_cases hlt : k < a.length
    · obtain ⟨x, hx⟩ : ∃ d, a[k]? = some d := ⟨_, List.getElem?_eq_getElem hlt⟩
      obtain ⟨y, hy⟩ : ∃ d, b[k]? = some d := ⟨_, List.getElem?_eq_getElem (by have := HL.out; omega)⟩
      have hlt' : (k : Int) < (a.length : Int) := by omega
      have hlt2 : (k : Int) < (b.length : Int) := by have := HL.out; omega
      obtain ⟨p1, q1, rfl, u1, _, _, hu1, x2, x3, x4⟩ := nod_at (H1.out.below hbr) hx
      obtain ⟨p2, q2, rfl, u2, _, _, hu2, y2, y3, y4⟩ := nod_at (H2.out.below hbr) hy
      have HNO : Hid (decide (x = y) = false → E = false) := fun h => HNN.out (pair_no hx hy (of_decide_eq_false h))
      have HYES : Hid (decide (x = y) = true → ∀ j x y, j < k + 1 → a[j]? = some x → b[j]? = some y → x = y) := fun h => pair_step HA.out hx hy (of_decide_eq_true h)
      obtain ⟨B1, d1, rfl, _, _⟩ := hu1.form
      obtain ⟨B2, d2, rfl, _, _⟩ := hu2.form
      have ha1 : Below wr.heap.size wr (wr.alloc (.cells #[.int .i64 x.id, .string x.kind, .slice B1 x.props.length d1] 56)) := (Below.refl _ _).alloc (Nat.le_refl _) _
      obtain ⟨z0, z1, z2⟩ := cell_box3 wr (.int .i64 x.id) (.string x.kind) (.slice B1 x.props.length d1) 56
      have hb1 := hbr.trans (ha1.mono hbr.size)
      have HU1 := Lib.hid (hu1.below ha1)
      have HU2 := Lib.hid (hu2.below ha1)
      clear hx hy hu1 hu2 HA
      go_upto_region 6 with fail
      have y2 := cell_below ha1 y2
      have y3 := cell_below ha1 y3
      have y4 := cell_below ha1 y4
      generalize wr.alloc (.cells #[.int .i64 x.id, .string x.kind, .slice B1 x.props.length d1] 56) = w1 at *
      have ha2 : Below w1.heap.size w1 (w1.alloc (.cells #[.int .i64 y.id, .string y.kind, .slice B2 y.props.length d2] 56)) := (Below.refl _ _).alloc (Nat.le_refl _) _
      obtain ⟨t0, t1, t2⟩ := cell_box3 w1 (.int .i64 y.id) (.string y.kind) (.slice B2 y.props.length d2) 56
      have hc := gequal_any x y _ _ _ (HU1.out.below ha2) (HU2.out.below ha2)
      have hb2 := hb1.trans (ha2.mono hb1.size)
      go_upto_region 7 with fail
      have z0 := cell_below ha2 z0
      have z1 := cell_below ha2 z1
      have z2 := cell_below ha2 z2
      generalize w1.alloc (.cells #[.int .i64 y.id, .string y.kind, .slice B2 y.props.length d2] 56) = w2 at *
      generalize decide (x = y) = qq at *
      clear x2 x3 x4 y2 y3 y4 ha1 ha2 hb1
      go_wp2_with fail
      refine hc.mono ?_
      clear hc z0 z1 z2 t0 t1 t2
      rintro e w3 ⟨rfl, hb3⟩
      have hb4 := hb2.trans (hb3.mono hb2.size)
      cases qq with
      | false =>
        have HE : Hid (E = false) := HNO.out rfl
        clear HNO HYES
        go_wp2_with fail
        go_ret
        exact ⟨by rw [HE.out]; rfl, hb4⟩
      | true =>
        have HS := Lib.hid (HYES.out rfl)
        clear HNO HYES
        go_wp2_with fail
        go_roundw
        case rel => exact ⟨k + 1, by omega, by go_num, hb4, HS⟩
        case measure => simp [intOf]; omega
    · obtain rfl : k = a.length := by omega
      have HE : Hid (E = true) := HEQ.out (lists_eq HL.out HA.out)
      clear HA
      go_wp2_with fail
      go_ret
      exact ⟨by rw [HE.out]; rfl, hbr⟩
/-! ### graph.Same -/
def sameGE (a b : Grf) : Int := if grfE a = 0 then grfE b else grfE a
def sameGR (a b : Grf) : Bool := if sameGE a b = 0 then decide (a = b) else false
theorem grf_eqB (a b : Grf) : decide (a = b) = (decide (a.nodes = b.nodes) && decide (a.ties = b.ties)) := by
  cases a; cases b
  simp only [Grf.mk.injEq]
  rename_i p q p' q'
  by_cases h1 : p = p' <;> by_cases h2 : q = q' <;> simp [h1, h2]
set_option maxRecDepth 100000 in
set_option maxHeartbeats 8000000 in
theorem gsame_any (a b : Grf) (k1 b1 k2 b2 : Value) (w : World) (h1 : GrfR w k1 b1 a) (h2 : GrfR w k2 b2 b) :
    Calls Tryd.prog 27 #[.agg #[k1, b1], .agg #[k2, b2]] w fun e w' => e = .returned (.tuple #[.bool (sameGR a b), errV (sameGE a b)]) ∧ Below w.heap.size w w' := by
  obtain ⟨A1, c1, rfl, _, hm1⟩ := h1.1.form
  obtain ⟨A2, c2, rfl, _, hm2⟩ := h1.2.form
  obtain ⟨A3, c3, rfl, _, hm3⟩ := h2.1.form
  obtain ⟨A4, c4, rfl, _, hm4⟩ := h2.2.form
  unfold maxLen at hm1 hm2 hm3 hm4
  obtain ⟨W0, hW0⟩ : ∃ W0, W0 = (w.alloc (.cells #[.slice A1 a.nodes.length c1, .slice A2 a.ties.length c2] 47)).alloc (.cells #[.slice A3 b.nodes.length c3, .slice A4 b.ties.length c4] 47) := ⟨_, rfl⟩
  have hb0 : Below w.heap.size w W0 := by rw [hW0]; exact ((Below.refl _ _).alloc (Nat.le_refl _) _).alloc (by simp) _
  have g0 : W0.heap[w.heap.size]? = some (.cells #[.slice A1 a.nodes.length c1, .slice A2 a.ties.length c2] 47 (0, 0)) := by
    rw [hW0, Below.heap_alloc _ _ _ (by simp)]; exact heap_alloc_new _ _
  have g1 : W0.heap[w.heap.size + 1]? = some (.cells #[.slice A3 b.nodes.length c3, .slice A4 b.ties.length c4] 47 (0, 0)) := by
    have := heap_alloc_new (w.alloc (.cells #[.slice A1 a.nodes.length c1, .slice A2 a.ties.length c2] 47)) (.cells #[.slice A3 b.nodes.length c3, .slice A4 b.ties.length c4] 47); rw [hW0]; simpa using this
  have hW0' := hW0.symm
  have hw0 := hb0.size
  have X0 := Lib.hid (block_cell g0 0)
  have X1 := Lib.hid (block_cell g0 1)
  have Y0 := Lib.hid (block_cell g1 0)
  have Y1 := Lib.hid (block_cell g1 1)
  have H1 := Lib.hid (h1.below hb0)
  have H2 := Lib.hid (h2.below hb0)
  have HS : Hid (sameGE a b = if grfE a = 0 then grfE b else grfE a) := rfl
  have HR : Hid (sameGR a b = if sameGE a b = 0 then decide (a = b) else false) := rfl
  have x0 := X0.out
  have x1 := X1.out
  have y0 := Y0.out
  have y1 := Y1.out
  have hbl : Below W0.heap.size W0 (W0.alloc (.cells #[.slice A1 a.nodes.length c1, .slice A2 a.ties.length c2, .slice A3 b.nodes.length c3, .slice A4 b.ties.length c4] 47)) := (Below.refl _ _).alloc (Nat.le_refl _) _
  have hgl := heap_alloc_new W0 (.cells #[.slice A1 a.nodes.length c1, .slice A2 a.ties.length c2, .slice A3 b.nodes.length c3, .slice A4 b.ties.length c4] 47)
  clear h1 h2 g0 g1 hW0
  go_enter Tryd.func27, Tryd.ntmps27
  go_upto_region 1 with fail
  clear hW0'
  go_upto_region 2 with fail
  generalize W0.alloc (.cells #[.slice A1 a.nodes.length c1, .slice A2 a.ties.length c2, .slice A3 b.nodes.length c3, .slice A4 b.ties.length c4] 47) = W1 at *
  have L := Lib.hid hgl
  have hb01 := hb0.trans (hbl.mono hw0)
  have HC1 : Hid (∀ W, Below W0.heap.size W0 W → Calls Tryd.prog 17 #[.agg #[.slice A1 a.nodes.length c1, .slice A2 a.ties.length c2]] W fun e w' => e = .returned (errV (grfE a)) ∧ Below W.heap.size W w') := fun W h => grfCheck_any a _ _ W (H1.out.below h)
  have HC2 : Hid (∀ W, Below W0.heap.size W0 W → Calls Tryd.prog 17 #[.agg #[.slice A3 b.nodes.length c3, .slice A4 b.ties.length c4]] W fun e w' => e = .returned (errV (grfE b)) ∧ Below W.heap.size W w') := fun W h => grfCheck_any b _ _ W (H2.out.below h)
  generalize grfE a = ea at *
  generalize grfE b = eb at *
  clear hgl x0 x1 y0 y1
  go_wp2_with fail
  go_loopw [13] (fun i wr => Below W1.heap.size W1 wr ∧ (i = .int .i64 0 ∨ (i = .int .i64 1 ∧ Hid (ea = 0)) ∨ (i = .int .i64 2 ∧ Hid (ea = 0) ∧ Hid (eb = 0)))) (fun i _ => 3 - (intOf i).toNat)
  case atStart => exact ⟨Below.refl _ _, .inl rfl⟩
  case round =>
    obtain ⟨hbr, hi⟩ := hrel
    have hl := (hbr.block _ (Array.getElem?_eq_some_iff.1 L.out).1).trans L.out
    have l0 := block_cell hl 0
    have l1 := block_cell hl 1
    have l2 := block_cell hl 2
    have l3 := block_cell hl 3
    have hB := hb01.trans (hbr.mono hb01.size)
    have hbW := hbl.trans (hbr.mono hbl.size)
    clear hl
    rcases hi with rfl | ⟨rfl, HA⟩ | ⟨rfl, HA, HB⟩
    · obtain ⟨z0, z1⟩ := cell_box2 wr (.slice A1 a.nodes.length c1) (.slice A2 a.ties.length c2) 47
      have ha : Below wr.heap.size wr (wr.alloc (.cells #[.slice A1 a.nodes.length c1, .slice A2 a.ties.length c2] 47)) := (Below.refl _ _).alloc (Nat.le_refl _) _
      have hc := HC1.out _ (hbW.trans (ha.mono hbW.size))
      have hb2 := hbr.trans (ha.mono hbr.size)
      have hB2 := hB.trans (ha.mono hB.size)
      go_upto_region 4 with fail
      generalize wr.alloc (.cells #[.slice A1 a.nodes.length c1, .slice A2 a.ties.length c2] 47) = w2 at *
      clear l0 l1 l2 l3
      go_wp2_with fail
      refine hc.mono ?_
      clear hc z0 z1
      rintro e w3 ⟨rfl, hb3⟩
      have hB3 := hB2.trans (hb3.mono hB2.size)
      have hbn := hb2.trans (hb3.mono hb2.size)
      by_cases he : ea = 0
      case neg =>
        have HE : Hid (errV (sameGE a b) = .iface 83 (.int .i64 ea) ∧ sameGR a b = false) := by
          have h0 : sameGE a b = ea := by rw [HS.out, if_neg he]
          exact ⟨by rw [h0]; exact errV_some he, by rw [HR.out, h0, if_neg he]⟩
        rw [errV_some he]
        clear he HS HR
        go_wp2_with fail
        go_ret2
        exact ⟨by rw [HE.out.1, HE.out.2]; rfl, hB3⟩
      have HE := Lib.hid he
      rw [errV_zero he]
      clear he
      go_wp2_with fail
      go_roundw
      case rel => exact ⟨hbn, .inr (.inl ⟨rfl, HE⟩)⟩
      case measure => simp [intOf]
    · obtain ⟨z0, z1⟩ := cell_box2 wr (.slice A3 b.nodes.length c3) (.slice A4 b.ties.length c4) 47
      have ha : Below wr.heap.size wr (wr.alloc (.cells #[.slice A3 b.nodes.length c3, .slice A4 b.ties.length c4] 47)) := (Below.refl _ _).alloc (Nat.le_refl _) _
      have hc := HC2.out _ (hbW.trans (ha.mono hbW.size))
      have hb2 := hbr.trans (ha.mono hbr.size)
      have hB2 := hB.trans (ha.mono hB.size)
      go_upto_region 4 with fail
      generalize wr.alloc (.cells #[.slice A3 b.nodes.length c3, .slice A4 b.ties.length c4] 47) = w2 at *
      clear l0 l1 l2 l3
      go_wp2_with fail
      refine hc.mono ?_
      clear hc z0 z1
      rintro e w3 ⟨rfl, hb3⟩
      have hB3 := hB2.trans (hb3.mono hB2.size)
      have hbn := hb2.trans (hb3.mono hb2.size)
      by_cases he : eb = 0
      case neg =>
        have HE : Hid (errV (sameGE a b) = .iface 83 (.int .i64 eb) ∧ sameGR a b = false) := by
          have h0 : sameGE a b = eb := by rw [HS.out, if_pos HA.out]
          exact ⟨by rw [h0]; exact errV_some he, by rw [HR.out, h0, if_neg he]⟩
        rw [errV_some he]
        clear he HS HR
        go_wp2_with fail
        go_ret2
        exact ⟨by rw [HE.out.1, HE.out.2]; rfl, hB3⟩
      have HE := Lib.hid he
      rw [errV_zero he]
      clear he
      go_wp2_with fail
      go_roundw
      case rel => exact ⟨hbn, .inr (.inr ⟨rfl, HA, HE⟩)⟩
      case measure => simp [intOf]
    · have HE : Hid (errV (sameGE a b) = .nilIface ∧ sameGR a b = (decide (a.nodes = b.nodes) && decide (a.ties = b.ties))) := by
        have h0 : sameGE a b = 0 := by rw [HS.out, if_pos HA.out, HB.out]
        exact ⟨errV_zero h0, by rw [HR.out, if_pos h0, grf_eqB]⟩
      have x0 := cell_below hbW X0.out
      have x1 := cell_below hbW X1.out
      have y0 := cell_below hbW Y0.out
      have y1 := cell_below hbW Y1.out
      have hn := eqNods_any a.nodes b.nodes _ _ wr (H1.out.below hbW).1 (H2.out.below hbW).1
      have HT : Hid (∀ W, Below wr.heap.size wr W → Calls Tryd.prog 67 #[.slice A2 a.ties.length c2, .slice A4 b.ties.length c4] W fun e w' => e = .returned (.bool (decide (a.ties = b.ties))) ∧ Below W.heap.size W w') := fun W h => eqTies_any a.ties b.ties _ _ W ((H1.out.below hbW).below h).2 ((H2.out.below hbW).below h).2
      generalize decide (a.nodes = b.nodes) = p at *
      generalize decide (a.ties = b.ties) = q at *
      clear l0 l1 l2 l3 HA HB HS HR HC1 HC2
      go_wp2_with fail
      refine hn.mono ?_
      clear hn
      rintro e w3 ⟨rfl, hb3⟩
      have hB3 := hB.trans (hb3.mono hB.size)
      cases p with
      | false =>
        go_wp2_with fail
        go_ret2
        exact ⟨by rw [HE.out.1, HE.out.2]; rfl, hB3⟩
      | true =>
        have x1 := cell_below hb3 x1
        have y1 := cell_below hb3 y1
        have ht := HT.out w3 hb3
        clear x0 y0 HT
        go_wp2_with fail
        refine ht.mono ?_
        clear ht
        rintro e w4 ⟨rfl, hb4⟩
        go_wp2_with fail
        go_ret2
        exact ⟨by rw [HE.out.1, HE.out.2]; rfl, hB3.trans (hb4.mono hB3.size)⟩
end Go.Proofs.YthefofclbepkoaaDoor
