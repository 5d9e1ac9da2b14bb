/- Parts: RlD. -/
import Derived.Test.YtngbbefpphinjaaGreatDoorMg21
/- Contract of the reference: kinref1.Diff. Conditions: both graphs are right. -/
namespace Go.Proofs.YtngbbefpphinjaaGreatDoor
open Go Go.RowKit




set_option maxRecDepth 100000 in
set_option maxHeartbeats 64000000 in
theorem rdiff_any (a b : Grf) (va ta vb tb : Value) (w : World) (h1 : GrfR w va ta a) (h2 : GrfR w vb tb b) (ha : grfE a = 0) (hb : grfE b = 0) :
    Calls Tryz.prog 14 #[.agg #[va, ta], .agg #[vb, tb]] w fun e w' => ∃ v, e = .returned v ∧ Sl oprL w' v (diffL a b) ∧ Below w.heap.size w w' := by
  obtain ⟨i0, ei, ez, ez1, ez2⟩ := info_parts opr_info
  obtain ⟨la1, la2, la3, la4⟩ := grf_ok ha
  obtain ⟨lb1, lb2, lb3, lb4⟩ := grf_ok hb
  obtain ⟨A1, c1, rfl, _, hm1⟩ := h1.1.form
  obtain ⟨A2, c2, rfl, _, hm2⟩ := h1.2.form
  obtain ⟨A3, c3, rfl, _, hm3⟩ := h2.1.form
  obtain ⟨A4, c4, rfl, _, hm4⟩ := h2.2.form
  unfold maxLen at hm1 hm2 hm3 hm4
  obtain ⟨W0, hW0⟩ : ∃ W0, W0 = (w.alloc (.cells #[.slice A1 a.nodes.length c1, .slice A2 a.ties.length c2] 25)).alloc (.cells #[.slice A3 b.nodes.length c3, .slice A4 b.ties.length c4] 25) := ⟨_, rfl⟩
  have hb0 : Below w.heap.size w W0 := by rw [hW0]; exact ((Below.refl _ _).alloc (Nat.le_refl _) _).alloc (by simp) _
  have g0 : W0.heap[w.heap.size]? = some (.cells #[.slice A1 a.nodes.length c1, .slice A2 a.ties.length c2] 25 (0, 0)) := by
    rw [hW0, Below.heap_alloc _ _ _ (by simp)]; exact heap_alloc_new _ _
  have g1 : W0.heap[w.heap.size + 1]? = some (.cells #[.slice A3 b.nodes.length c3, .slice A4 b.ties.length c4] 25 (0, 0)) := by
    have := heap_alloc_new (w.alloc (.cells #[.slice A1 a.nodes.length c1, .slice A2 a.ties.length c2] 25)) (.cells #[.slice A3 b.nodes.length c3, .slice A4 b.ties.length c4] 25); rw [hW0]; simpa using this
  have hW0' := hW0.symm
  have hw0 := hb0.size
  have X0 := Lib.hid (block_cell g0 0)
  have X1 := Lib.hid (block_cell g0 1)
  have Y0 := Lib.hid (block_cell g1 0)
  have Y1 := Lib.hid (block_cell g1 1)
  have HA := Lib.hid (h1.below hb0)
  have HB := Lib.hid (h2.below hb0)
  have HTB : Hid (∀ (t : Tie) W, Below W0.heap.size W0 W → Calls Tryz.prog 53 #[.agg #[.slice A3 b.nodes.length c3, .slice A4 b.ties.length c4], .agg #[.string t.bond, .int .i64 t.src, .int .i64 t.dst]] W fun e w' => e = .returned (.bool (decide (t ∈ b.ties))) ∧ Below W.heap.size W w') := fun t W h => tied_any b t _ _ W (HB.out.below h)
  have HTA : Hid (∀ (t : Tie) W, Below W0.heap.size W0 W → Calls Tryz.prog 53 #[.agg #[.slice A1 a.nodes.length c1, .slice A2 a.ties.length c2], .agg #[.string t.bond, .int .i64 t.src, .int .i64 t.dst]] W fun e w' => e = .returned (.bool (decide (t ∈ a.ties))) ∧ Below W.heap.size W w') := fun t W h => tied_any a t _ _ W (HA.out.below h)
  have HKB : Hid (∀ (n : Nod) (u : Value) W, Below W0.heap.size W0 W → Sl prpL W u n.props → Calls Tryz.prog 54 #[.agg #[.slice A3 b.nodes.length c3, .slice A4 b.ties.length c4], .agg #[.int .i64 n.id, .string n.kind, u]] W fun e w' => e = .returned (.int .i64 (keptI b n)) ∧ Below W.heap.size W w') := fun n u W h hu => rkept_any b n _ _ u W (HB.out.below h) hu lb3
  have HKA : Hid (∀ (n : Nod) (u : Value) W, Below W0.heap.size W0 W → Sl prpL W u n.props → Calls Tryz.prog 54 #[.agg #[.slice A1 a.nodes.length c1, .slice A2 a.ties.length c2], .agg #[.int .i64 n.id, .string n.kind, u]] W fun e w' => e = .returned (.int .i64 (keptI a n)) ∧ Below W.heap.size W w') := fun n u W h hu => rkept_any a n _ _ u W (HA.out.below h) hu la3
  have HLO : Hid (∀ (id : Int) W, Below W0.heap.size W0 W → Calls Tryz.prog 56 #[.agg #[.slice A1 a.nodes.length c1, .slice A2 a.ties.length c2], .agg #[.slice A3 b.nodes.length c3, .slice A4 b.ties.length c4], .int .i64 id] W fun e w' => e = .returned (.bool (decide (id ∈ lostIds a b))) ∧ Below W.heap.size W w') := fun id W h => rlost_any a b id _ _ _ _ W (HA.out.below h) (HB.out.below h) ha hb
  have HRA : Hid (∀ n ∈ a.nodes, recE n.props = 0) := fun n hn => nod_rec0 ha hn
  have HRB : Hid (∀ n ∈ b.nodes, recE n.props = 0) := fun n hn => nod_rec0 hb hn
  have HKM : Hid (∀ n m, keptN b n = some m → m ∈ b.nodes) := fun n m h => ((kept_iff hb).1 h).1
  have HPL : Hid (∀ k, (prsL a b k).length ≤ 16 * k) := prs_len ha hb
  obtain ⟨B, hBe⟩ : ∃ B, B = W0.heap.size := ⟨_, rfl⟩
  clear h1 h2 hW0 g0 g1 la3 la4 lb3 lb4 ha hb hm1 hm2 hm3 hm4
  go_enter Tryz.func14, Tryz.ntmps14
  go_wp2_with fail
  clear hW0'
  -- the ties that are not there any more
  go_loopw [5, 6] (fun ov i wr => ∃ (k : Nat) (xs : List Value), k ≤ a.ties.length ∧ i = .int .i64 k ∧ Below B W0 wr ∧ Hid (OpsF W0 B wr ov (looL a b k) xs)) (fun _ i _ => a.ties.length - (intOf i).toNat)
  case atStart => exact ⟨0, [], Nat.zero_le _, rfl, Below.refl _ _, OpsF.nil (by omega)⟩
  case round =>
    obtain ⟨k, xs, hk, rfl, hbr, HO⟩ := hrel
    have hbr' : Below W0.heap.size W0 wr := by rw [← hBe]; exact hbr
    have x0 := cell_below hbr' X0.out
    have x1 := cell_below hbr' X1.out
    have y0 := cell_below hbr' Y0.out
    have y1 := cell_below hbr' Y1.out
    by_cases hlt : k < a.ties.length
    · obtain ⟨t, hp⟩ : ∃ d, a.ties[k]? = some d := ⟨_, List.getElem?_eq_getElem hlt⟩
      have hlt' : (k : Int) < (a.ties.length : Int) := by omega
      obtain ⟨gb, o, rfl, hpok, q0, q1, q2⟩ := tie_at (HA.out.below hbr').2 hp
      have HST : Hid (looL a b (k + 1) = looL a b k ++ (if decide (t ∉ b.ties) = true then [looseOpr t] else [])) := ofilt_snoc _ _ hp
      have hll : (looL a b k).length ≤ k := ofilt_len _ _ _ _
      have HPK := Lib.hid hpok
      clear hp hpok
      -- a call in the middle: 6: the operations ahead; HTB.out t (wr.drewN nq) (hbr'.trans (below_drewN (Below.refl _ _) nq)): the contract at the world drawn
      go_wp2_with fail
      refine wp_mid_k 6 _ rfl rfl (by kernel_rfl) (by kernel_rfl) ?_
      simp only [List.take_succ_cons, List.take_zero, List.drop_succ_cons, List.drop_zero]
      repeat (go_big_quiet_step (fail))
      refine wpQuiet_nil ?_
      intro _ hw'
      obtain ⟨nq, hw''⟩ := hw'
      subst hw''
      intro K hK
      have hx := HTB.out t (wr.drewN nq) (hbr'.trans (below_drewN (Below.refl _ _) nq))
      go_wp2_with fail
      refine hx.mono ?_
      clear hx
      rintro e w3 ⟨rfl, hb3⟩
      have hb12 := (below_drewN (Below.refl wr.heap.size wr) nq).trans hb3
      clear hb3
      refine hK _ _ ?_
      repeat (go_big_quiet_step (fail))
      refine wpQuiet_nil ?_
      intro _ hw'
      obtain ⟨nq2, hw''⟩ := hw'
      subst hw''
      clear hK
      have hbW := below_drewN hb12 nq2
      generalize w3.drewN nq2 = w4 at *
      have HO4 := Lib.hid (HO.out.below hbW)
      have hB4 := hbr.trans (hbW.mono HO.out.b)
      have x1 := cell_below hbW x1
      have q0 := cell_below hbW q0
      have q1 := cell_below hbW q1
      have q2 := cell_below hbW q2
      by_cases hm : t ∈ b.ties
      · have HN : Hid (looL a b (k + 1) = looL a b k) := by unfold Hid; rw [HST.out]; simp [hm]
        rw [decide_eq_true hm]
        clear hm HST
        -- nothing is added: $1: the xs
        have hbr4 : Below W0.heap.size W0 w4 := by rw [← hBe]; exact hB4
        go_wp2_with fail
        go_roundw
        case rel => exact ⟨k + 1, xs, by omega, by go_num, hB4, by rw [HN.out]; exact HO4⟩
        case measure => simp [intOf]; omega
      · have HN : Hid (looL a b (k + 1) = looL a b k ++ [looseOpr t]) := by unfold Hid; rw [HST.out]; simp [hm]
        rw [decide_eq_false hm]
        clear hm HST hbr hbr' HO x0 y0 y1
        -- 39, 46: the slots; looseOpr t: the op; .slice none 0 0: its record's value; w4: the world before; looL a b k: the row; xs: its cells; HO4: the Hid of OpsF
        -- an op more: looseOpr t: the op; .slice none 0 0: its record's value; w4: the world before it is built; looL a b k: the row of ops; HO4: the Hid of OpsF there
        have hoa := (HO4).out.o.alloc (.cells (oprCells (looseOpr t) (.slice none 0 0)) 37)
        have hsb := (HO4).out.b
        obtain ⟨nl, hnl⟩ : ∃ nl, (looL a b k).length = nl := ⟨_, rfl⟩
        have hnlb : nl ≤ 100000 := by omega
        rw [hnl] at hoa
        have HNL := Lib.hid hnl
        clear hnl
        obtain ⟨Ap, cp, hvp, hpc, hpm⟩ := hoa.form
        subst hvp
        have HNW : Hid (∀ j u, (oprCells (looseOpr t) (.slice none 0 0)).toList[j]? = some u → ((w4).alloc (.cells (oprCells (looseOpr t) (.slice none 0 0)) 37)).cell? ⟨(w4).heap.size, j, none⟩ = some u) := fun j u hj => by
          rw [World.cell?_alloc_at _ _ _ _ rfl]; simpa using hj
        have HOA := Lib.hid hoa
        have HRA := Lib.hid (HO4).out.r
        have HSB : Hid (B ≤ ((w4).alloc (.cells (oprCells (looseOpr t) (.slice none 0 0)) 37)).heap.size) := Nat.le_trans hsb (Below.alloc (Below.refl _ _) (Nat.le_refl _) (.cells (oprCells (looseOpr t) (.slice none 0 0)) 37)).size
        clear hoa
        go_wp2_with (first
          | (at_builtin; refine wpList_append_q _ rfl (.tmp 39) (.tmp 46) _ rfl B 37 i0 opr0 11 136 Tryz.underlying38 ei ez ez1 ez2 rfl (by decide) (.slice Ap nl cp) nl (xs) rfl HOA.out (some ⟨(w4).heap.size, 0, none⟩) 1 1 (oprCells (looseOpr t) (.slice none 0 0)).toList rfl rfl (fun _ => ⟨_, rfl, fun j u hj => by rw [addr_add, Nat.zero_add]; exact HNW.out j u hj⟩) (fun u hu => by simp [oprCells] at hu; rcases hu with rfl | rfl | rfl | rfl | rfl | rfl | rfl | rfl | rfl | rfl | rfl <;> rfl) (by unfold maxLen; omega) (by omega) HSB.out ?_; intro v7 w7 hown7 hg7 hat7))
        -- looseOpr t: the op; .slice none 0 0: its record's value; i64_zero sm_empty prp0_ok HPK.out (Sl.nil 0 (Nat.zero_le _) none): its facts; HOA: the world's HOA or HOD; HSB.out: that B is below; looL a b (k + 1): the list behind; xs: its cells; hB4.alloc HO4.out.b _: Below from W0 to the world ahead of the append
        have hpush := OpsF.push HNL.out (HOA).out HRA.out (HSB.out) (m := [looseOpr t]) (ys := (oprCells (looseOpr t) (.slice none 0 0)).toList) (RefOps.one i64_zero sm_empty prp0_ok HPK.out (Sl.nil 0 (Nat.zero_le _) none)) hown7 hg7
        have hB7 : Below B W0 w7 := (hB4.alloc HO4.out.b _).trans hpush.2.1
        have hsm7 := hpush.2.2
        have HO7 : Hid (OpsF W0 B w7 v7 (looL a b (k + 1)) ((xs) ++ (oprCells (looseOpr t) (.slice none 0 0)).toList)) := by unfold Hid; rw [HN.out]; first | exact hpush.1 | (rw [← List.append_assoc]; exact hpush.1)
        clear hpush hg7 hat7 hown7 HOA HRA HNW
        go_roundw
        case rel => exact ⟨k + 1, _, by omega, by go_num, hB7, HO7⟩
        case measure => simp [intOf]; omega
    · obtain rfl : k = a.ties.length := by omega
      have hll1 : (looL a b a.ties.length).length ≤ 120 := Nat.le_trans (ofilt_len _ _ _ _) la2
      have HE1 : Hid (∀ l, looL a b a.ties.length = l → diffL a b = l ++ gonL a b a.nodes.length ++ newL a b b.nodes.length ++ prsL a b a.nodes.length ++ binL a b b.ties.length) := fun l h => by rw [diff_parts, h]
      obtain ⟨l1, hl1⟩ : ∃ l, looL a b a.ties.length = l := ⟨_, rfl⟩
      have HE1 := Lib.hid (HE1.out l1 hl1)
      rw [hl1] at hll1 HO
      have HO1 : Hid (OpsF W0 B wr u5 (l1 ++ gonL a b 0) xs) := by
        have : gonL a b 0 = [] := by unfold gonL; rw [List.take_zero]; rfl
        unfold Hid; rw [this, List.append_nil]; exact HO.out
      have hbr1 := hbr
      clear hl1 HO hbr hbr'
      go_wp2_with fail
      clear x0 x1 y0 y1
      -- the nodes that are not there any more
      go_loopw [5, 8] (fun ov i wr => ∃ (k : Nat) (xs : List Value), k ≤ a.nodes.length ∧ i = .int .i64 k ∧ Below B W0 wr ∧ Hid (OpsF W0 B wr ov (l1 ++ gonL a b k) xs)) (fun _ i _ => a.nodes.length - (intOf i).toNat)
      case atStart => exact ⟨0, xs, Nat.zero_le _, rfl, hbr1, HO1⟩
      case round =>
        clear HO1 hbr1
        obtain ⟨k, xs, hk, rfl, hbr, HO⟩ := hrel
        have hbr' : Below W0.heap.size W0 wr := by rw [← hBe]; exact hbr
        have x0 := cell_below hbr' X0.out
        have x1 := cell_below hbr' X1.out
        have y0 := cell_below hbr' Y0.out
        have y1 := cell_below hbr' Y1.out
        by_cases hlt : k < a.nodes.length
        · obtain ⟨n, hp⟩ : ∃ d, a.nodes[k]? = some d := ⟨_, List.getElem?_eq_getElem hlt⟩
          have hlt' : (k : Int) < (a.nodes.length : Int) := by omega
          obtain ⟨gb, o, rfl, un, hid, hkd, hun, q0, q1, q2⟩ := nod_at (HA.out.below hbr').1 hp
          obtain ⟨An, cn, rfl, _, _⟩ := hun.form
          have HST : Hid (gonL a b (k + 1) = gonL a b k ++ (if (keptN b n).isNone = true then [goneOpr n.id] else [])) := ofilt_snoc _ _ hp
          have hll : (gonL a b k).length ≤ k := ofilt_len _ _ _ _
          have hll2 : (l1 ++ gonL a b k).length ≤ 180 := by rw [List.length_append]; omega
          have HID := Lib.hid hid
          have HNG := Lib.hid (keptI_neg b n)
          have HUN := Lib.hid hun
          clear hp hun hid hkd
          -- a call in the middle: 6: the operations ahead; HKB.out n _ (wr.drewN nq) (hbr'.trans (below_drewN (Below.refl _ _) nq)) (HUN.out.below (below_drewN (Below.refl _ _) nq)): the contract at the world drawn
          go_wp2_with fail
          refine wp_mid_k 6 _ rfl rfl (by kernel_rfl) (by kernel_rfl) ?_
          simp only [List.take_succ_cons, List.take_zero, List.drop_succ_cons, List.drop_zero]
          repeat (go_big_quiet_step (fail))
          refine wpQuiet_nil ?_
          intro _ hw'
          obtain ⟨nq, hw''⟩ := hw'
          subst hw''
          intro K hK
          have hx := HKB.out n _ (wr.drewN nq) (hbr'.trans (below_drewN (Below.refl _ _) nq)) (HUN.out.below (below_drewN (Below.refl _ _) nq))
          go_wp2_with fail
          refine hx.mono ?_
          clear hx
          rintro e w3 ⟨rfl, hb3⟩
          have hb12 := (below_drewN (Below.refl wr.heap.size wr) nq).trans hb3
          clear hb3
          by_cases hki : keptI b n < 0
          · have HN : Hid (gonL a b (k + 1) = gonL a b k ++ [goneOpr n.id]) := by unfold Hid; rw [HST.out, ← HNG.out, decide_eq_true hki]; rfl
            have hkd : decide (keptI b n < 0) = true := decide_eq_true hki
            clear HNG HST
            generalize keptI b n = ki at *
            refine hK _ _ ?_
            repeat (go_big_quiet_step (fail))
            refine wpQuiet_nil ?_
            intro _ hw'
            obtain ⟨nq2, hw''⟩ := hw'
            subst hw''
            clear hK
            have hbW := below_drewN hb12 nq2
            generalize w3.drewN nq2 = w4 at *
            have HO4 := Lib.hid (HO.out.below hbW)
            have hB4 := hbr.trans (hbW.mono HO.out.b)
            have x0 := cell_below hbW x0
            have q0 := cell_below hbW q0
            clear hbr hbr' HO x1 y0 y1 q1 q2 HUN
            -- 63, 72: the slots; goneOpr n.id: the op; .slice none 0 0: its record's value; w4: the world before; l1 ++ gonL a b k: the row; xs: its cells; HO4: the Hid of OpsF
            -- an op more: goneOpr n.id: the op; .slice none 0 0: its record's value; w4: the world before it is built; l1 ++ gonL a b k: the row of ops; HO4: the Hid of OpsF there
            have hoa := (HO4).out.o.alloc (.cells (oprCells (goneOpr n.id) (.slice none 0 0)) 37)
            have hsb := (HO4).out.b
            obtain ⟨nl, hnl⟩ : ∃ nl, (l1 ++ gonL a b k).length = nl := ⟨_, rfl⟩
            have hnlb : nl ≤ 100000 := by omega
            rw [hnl] at hoa
            have HNL := Lib.hid hnl
            clear hnl
            obtain ⟨Ap, cp, hvp, hpc, hpm⟩ := hoa.form
            subst hvp
            have HNW : Hid (∀ j u, (oprCells (goneOpr n.id) (.slice none 0 0)).toList[j]? = some u → ((w4).alloc (.cells (oprCells (goneOpr n.id) (.slice none 0 0)) 37)).cell? ⟨(w4).heap.size, j, none⟩ = some u) := fun j u hj => by
              rw [World.cell?_alloc_at _ _ _ _ rfl]; simpa using hj
            have HOA := Lib.hid hoa
            have HRA := Lib.hid (HO4).out.r
            have HSB : Hid (B ≤ ((w4).alloc (.cells (oprCells (goneOpr n.id) (.slice none 0 0)) 37)).heap.size) := Nat.le_trans hsb (Below.alloc (Below.refl _ _) (Nat.le_refl _) (.cells (oprCells (goneOpr n.id) (.slice none 0 0)) 37)).size
            clear hoa
            go_wp2_with (first
              | (at_builtin; refine wpList_append_q _ rfl (.tmp 63) (.tmp 72) _ rfl B 37 i0 opr0 11 136 Tryz.underlying38 ei ez ez1 ez2 rfl (by decide) (.slice Ap nl cp) nl (xs) rfl HOA.out (some ⟨(w4).heap.size, 0, none⟩) 1 1 (oprCells (goneOpr n.id) (.slice none 0 0)).toList rfl rfl (fun _ => ⟨_, rfl, fun j u hj => by rw [addr_add, Nat.zero_add]; exact HNW.out j u hj⟩) (fun u hu => by simp [oprCells] at hu; rcases hu with rfl | rfl | rfl | rfl | rfl | rfl | rfl | rfl | rfl | rfl | rfl <;> rfl) (by unfold maxLen; omega) (by omega) HSB.out ?_; intro v7 w7 hown7 hg7 hat7))
            -- goneOpr n.id: the op; .slice none 0 0: its record's value; HID.out sm_empty prp0_ok tie0_ok (Sl.nil 0 (Nat.zero_le _) none): its facts; HOA: the world's HOA or HOD; HSB.out: that B is below; l1 ++ gonL a b (k + 1): the list behind; xs: its cells; hB4.alloc HO4.out.b _: Below from W0 to the world ahead of the append
            have hpush := OpsF.push HNL.out (HOA).out HRA.out (HSB.out) (m := [goneOpr n.id]) (ys := (oprCells (goneOpr n.id) (.slice none 0 0)).toList) (RefOps.one HID.out sm_empty prp0_ok tie0_ok (Sl.nil 0 (Nat.zero_le _) none)) hown7 hg7
            have hB7 : Below B W0 w7 := (hB4.alloc HO4.out.b _).trans hpush.2.1
            have hsm7 := hpush.2.2
            have HO7 : Hid (OpsF W0 B w7 v7 (l1 ++ gonL a b (k + 1)) ((xs) ++ (oprCells (goneOpr n.id) (.slice none 0 0)).toList)) := by unfold Hid; rw [HN.out]; first | exact hpush.1 | (rw [← List.append_assoc]; exact hpush.1)
            clear hpush hg7 hat7 hown7 HOA HRA HNW
            go_roundw
            case rel => exact ⟨k + 1, _, by omega, by go_num, hB7, HO7⟩
            case measure => simp [intOf]; omega
          · have HN : Hid (gonL a b (k + 1) = gonL a b k) := by unfold Hid; rw [HST.out, ← HNG.out, decide_eq_false hki]; simp
            have hkd : decide (keptI b n < 0) = false := decide_eq_false hki
            clear HNG HST
            generalize keptI b n = ki at *
            refine hK _ _ ?_
            repeat (go_big_quiet_step (fail))
            refine wpQuiet_nil ?_
            intro _ hw'
            obtain ⟨nq2, hw''⟩ := hw'
            subst hw''
            clear hK
            have hbW := below_drewN hb12 nq2
            generalize w3.drewN nq2 = w4 at *
            have HO4 := Lib.hid (HO.out.below hbW)
            have hB4 := hbr.trans (hbW.mono HO.out.b)
            clear HUN
            -- nothing is added: $1: the xs
            have hbr4 : Below W0.heap.size W0 w4 := by rw [← hBe]; exact hB4
            go_wp2_with fail
            go_roundw
            case rel => exact ⟨k + 1, xs, by omega, by go_num, hB4, by rw [HN.out]; exact HO4⟩
            case measure => simp [intOf]; omega
        · obtain rfl : k = a.nodes.length := by omega
          have hll2 : (l1 ++ gonL a b a.nodes.length).length ≤ 180 := by have := ofilt_len (fun n : Nod => goneOpr n.id) (fun n => (keptN b n).isNone) a.nodes a.nodes.length; rw [List.length_append]; unfold gonL; omega
          obtain ⟨l2, hl2⟩ : ∃ l, l1 ++ gonL a b a.nodes.length = l := ⟨_, rfl⟩
          have HE2 : Hid (diffL a b = l2 ++ newL a b b.nodes.length ++ prsL a b a.nodes.length ++ binL a b b.ties.length) := by unfold Hid; rw [HE1.out, hl2]
          rw [hl2] at hll2 HO
          have HO1 : Hid (OpsF W0 B wr u5 (l2 ++ newL a b 0) xs) := by
            have : newL a b 0 = [] := by unfold newL; rw [List.take_zero]; rfl
            unfold Hid; rw [this, List.append_nil]; exact HO.out
          have hbr1 := hbr
          clear hl2 HE1 HO hbr hbr'
          go_wp2_with fail
          clear x0 x1 y0 y1
          -- the nodes that are new
          go_loopw [5, 9] (fun ov i wr => ∃ (k : Nat) (xs : List Value), k ≤ b.nodes.length ∧ i = .int .i64 k ∧ Below B W0 wr ∧ Hid (OpsF W0 B wr ov (l2 ++ newL a b k) xs)) (fun _ i _ => b.nodes.length - (intOf i).toNat)
          case atStart => exact ⟨0, xs, Nat.zero_le _, rfl, hbr1, HO1⟩
          case round =>
            clear HO1 hbr1
            obtain ⟨k, xs, hk, rfl, hbr, HO⟩ := hrel
            have hbr' : Below W0.heap.size W0 wr := by rw [← hBe]; exact hbr
            have x0 := cell_below hbr' X0.out
            have x1 := cell_below hbr' X1.out
            have y0 := cell_below hbr' Y0.out
            have y1 := cell_below hbr' Y1.out
            by_cases hlt : k < b.nodes.length
            · obtain ⟨n, hp⟩ : ∃ d, b.nodes[k]? = some d := ⟨_, List.getElem?_eq_getElem hlt⟩
              have hlt' : (k : Int) < (b.nodes.length : Int) := by omega
              obtain ⟨gb, o, rfl, un, hid, hkd, hun, q0, q1, q2⟩ := nod_at HB.out.1 hp
              obtain ⟨An, cn, rfl, _, _⟩ := hun.form
              have q0 := cell_below hbr' q0
              have q1 := cell_below hbr' q1
              have q2 := cell_below hbr' q2
              have HST : Hid (newL a b (k + 1) = newL a b k ++ (if (keptN a n).isNone = true then [newOpr n] else [])) := ofilt_snoc _ _ hp
              have hll : (newL a b k).length ≤ k := ofilt_len _ _ _ _
              have hll2 : (l2 ++ newL a b k).length ≤ 240 := by rw [List.length_append]; omega
              have HID := Lib.hid (And.intro hid hkd)
              have HNG := Lib.hid (keptI_neg a n)
              have HUN := Lib.hid hun
              clear hp hun hid hkd
              -- a call in the middle: 6: the operations ahead; HKA.out n _ (wr.drewN nq) (hbr'.trans (below_drewN (Below.refl _ _) nq)) (HUN.out.below (hbr'.trans (below_drewN (Below.refl _ _) nq))): the contract at the world drawn
              go_wp2_with fail
              refine wp_mid_k 6 _ rfl rfl (by kernel_rfl) (by kernel_rfl) ?_
              simp only [List.take_succ_cons, List.take_zero, List.drop_succ_cons, List.drop_zero]
              repeat (go_big_quiet_step (fail))
              refine wpQuiet_nil ?_
              intro _ hw'
              obtain ⟨nq, hw''⟩ := hw'
              subst hw''
              intro K hK
              have hx := HKA.out n _ (wr.drewN nq) (hbr'.trans (below_drewN (Below.refl _ _) nq)) (HUN.out.below (hbr'.trans (below_drewN (Below.refl _ _) nq)))
              go_wp2_with fail
              refine hx.mono ?_
              clear hx
              rintro e w3 ⟨rfl, hb3⟩
              have hb12 := (below_drewN (Below.refl wr.heap.size wr) nq).trans hb3
              clear hb3
              by_cases hki : keptI a n < 0
              · have HN : Hid (newL a b (k + 1) = newL a b k ++ [newOpr n]) := by unfold Hid; rw [HST.out, ← HNG.out, decide_eq_true hki]; rfl
                have hkd : decide (keptI a n < 0) = true := decide_eq_true hki
                clear HNG HST
                generalize keptI a n = ki at *
                refine hK _ _ ?_
                repeat (go_big_quiet_step (fail))
                refine wpQuiet_nil ?_
                intro _ hw'
                obtain ⟨nq2, hw''⟩ := hw'
                subst hw''
                clear hK
                have hbW := below_drewN hb12 nq2
                generalize w3.drewN nq2 = w4 at *
                have HO4 := Lib.hid (HO.out.below hbW)
                have hB4 := hbr.trans (hbW.mono HO.out.b)
                have y0 := cell_below hbW y0
                have q0 := cell_below hbW q0
                have q1 := cell_below hbW q1
                have q2 := cell_below hbW q2
                clear hbr hbr' HO x1 x0 y1
                -- 89, 96: the slots; newOpr n: the op; .slice An n.props.length cn: its record's value; w4: the world before; l2 ++ newL a b k: the row; xs: its cells; HO4: the Hid of OpsF
                -- an op more: newOpr n: the op; .slice An n.props.length cn: its record's value; w4: the world before it is built; l2 ++ newL a b k: the row of ops; HO4: the Hid of OpsF there
                have hoa := (HO4).out.o.alloc (.cells (oprCells (newOpr n) (.slice An n.props.length cn)) 37)
                have hsb := (HO4).out.b
                obtain ⟨nl, hnl⟩ : ∃ nl, (l2 ++ newL a b k).length = nl := ⟨_, rfl⟩
                have hnlb : nl ≤ 100000 := by omega
                rw [hnl] at hoa
                have HNL := Lib.hid hnl
                clear hnl
                obtain ⟨Ap, cp, hvp, hpc, hpm⟩ := hoa.form
                subst hvp
                have HNW : Hid (∀ j u, (oprCells (newOpr n) (.slice An n.props.length cn)).toList[j]? = some u → ((w4).alloc (.cells (oprCells (newOpr n) (.slice An n.props.length cn)) 37)).cell? ⟨(w4).heap.size, j, none⟩ = some u) := fun j u hj => by
                  rw [World.cell?_alloc_at _ _ _ _ rfl]; simpa using hj
                have HOA := Lib.hid hoa
                have HRA := Lib.hid (HO4).out.r
                have HSB : Hid (B ≤ ((w4).alloc (.cells (oprCells (newOpr n) (.slice An n.props.length cn)) 37)).heap.size) := Nat.le_trans hsb (Below.alloc (Below.refl _ _) (Nat.le_refl _) (.cells (oprCells (newOpr n) (.slice An n.props.length cn)) 37)).size
                clear hoa
                go_wp2_with (first
                  | (at_builtin; refine wpList_append_q _ rfl (.tmp 89) (.tmp 96) _ rfl B 37 i0 opr0 11 136 Tryz.underlying38 ei ez ez1 ez2 rfl (by decide) (.slice Ap nl cp) nl (xs) rfl HOA.out (some ⟨(w4).heap.size, 0, none⟩) 1 1 (oprCells (newOpr n) (.slice An n.props.length cn)).toList rfl rfl (fun _ => ⟨_, rfl, fun j u hj => by rw [addr_add, Nat.zero_add]; exact HNW.out j u hj⟩) (fun u hu => by simp [oprCells] at hu; rcases hu with rfl | rfl | rfl | rfl | rfl | rfl | rfl | rfl | rfl | rfl | rfl <;> rfl) (by unfold maxLen; omega) (by omega) HSB.out ?_; intro v7 w7 hown7 hg7 hat7))
                -- newOpr n: the op; .slice An n.props.length cn: its record's value; HID.out.1 HID.out.2 prp0_ok tie0_ok HUN.out: its facts; HOA: the world's HOA or HOD; HSB.out: that B is below; l2 ++ newL a b (k + 1): the list behind; xs: its cells; hB4.alloc HO4.out.b _: Below from W0 to the world ahead of the append
                have hpush := OpsF.push HNL.out (HOA).out HRA.out (HSB.out) (m := [newOpr n]) (ys := (oprCells (newOpr n) (.slice An n.props.length cn)).toList) (RefOps.one HID.out.1 HID.out.2 prp0_ok tie0_ok HUN.out) hown7 hg7
                have hB7 : Below B W0 w7 := (hB4.alloc HO4.out.b _).trans hpush.2.1
                have hsm7 := hpush.2.2
                have HO7 : Hid (OpsF W0 B w7 v7 (l2 ++ newL a b (k + 1)) ((xs) ++ (oprCells (newOpr n) (.slice An n.props.length cn)).toList)) := by unfold Hid; rw [HN.out]; first | exact hpush.1 | (rw [← List.append_assoc]; exact hpush.1)
                clear hpush hg7 hat7 hown7 HOA HRA HNW
                go_roundw
                case rel => exact ⟨k + 1, _, by omega, by go_num, hB7, HO7⟩
                case measure => simp [intOf]; omega
              · have HN : Hid (newL a b (k + 1) = newL a b k) := by unfold Hid; rw [HST.out, ← HNG.out, decide_eq_false hki]; simp
                have hkd : decide (keptI a n < 0) = false := decide_eq_false hki
                clear HNG HST
                generalize keptI a n = ki at *
                refine hK _ _ ?_
                repeat (go_big_quiet_step (fail))
                refine wpQuiet_nil ?_
                intro _ hw'
                obtain ⟨nq2, hw''⟩ := hw'
                subst hw''
                clear hK
                have hbW := below_drewN hb12 nq2
                generalize w3.drewN nq2 = w4 at *
                have HO4 := Lib.hid (HO.out.below hbW)
                have hB4 := hbr.trans (hbW.mono HO.out.b)
                clear HUN
                -- nothing is added: $1: the xs
                have hbr4 : Below W0.heap.size W0 w4 := by rw [← hBe]; exact hB4
                go_wp2_with fail
                go_roundw
                case rel => exact ⟨k + 1, xs, by omega, by go_num, hB4, by rw [HN.out]; exact HO4⟩
                case measure => simp [intOf]; omega
            · obtain rfl : k = b.nodes.length := by omega
              have hll3 : (l2 ++ newL a b b.nodes.length).length ≤ 240 := by have := ofilt_len newOpr (fun n => (keptN a n).isNone) b.nodes b.nodes.length; rw [List.length_append]; unfold newL; omega
              obtain ⟨l3, hl3⟩ : ∃ l, l2 ++ newL a b b.nodes.length = l := ⟨_, rfl⟩
              have HE3 : Hid (diffL a b = l3 ++ prsL a b a.nodes.length ++ binL a b b.ties.length) := by unfold Hid; rw [HE2.out, hl3]
              rw [hl3] at hll3 HO
              have HO1 : Hid (OpsF W0 B wr u5 (l3 ++ prsL a b 0) xs) := by
                have : prsL a b 0 = [] := by unfold prsL; rw [List.take_zero]; rfl
                unfold Hid; rw [this, List.append_nil]; exact HO.out
              have hbr1 := hbr
              clear hl3 HE2 HO hbr hbr' HKA
              go_wp2_with fail
              clear x0 x1 y0 y1
              -- the nodes that are kept
              go_loopw [5, 10] (fun ov i wr => ∃ (k : Nat) (xs : List Value), k ≤ a.nodes.length ∧ i = .int .i64 k ∧ Below B W0 wr ∧ Hid (OpsF W0 B wr ov (l3 ++ prsL a b k) xs)) (fun _ i _ => a.nodes.length - (intOf i).toNat)
              case atStart => exact ⟨0, xs, Nat.zero_le _, rfl, hbr1, HO1⟩
              case round =>
                clear HO1 hbr1
                obtain ⟨k, xs, hk, rfl, hbr, HO⟩ := hrel
                have hbr' : Below W0.heap.size W0 wr := by rw [← hBe]; exact hbr
                have x0 := cell_below hbr' X0.out
                have x1 := cell_below hbr' X1.out
                have y0 := cell_below hbr' Y0.out
                have y1 := cell_below hbr' Y1.out
                by_cases hlt : k < a.nodes.length
                · obtain ⟨n, hp⟩ : ∃ d, a.nodes[k]? = some d := ⟨_, List.getElem?_eq_getElem hlt⟩
                  have hlt' : (k : Int) < (a.nodes.length : Int) := by omega
                  obtain ⟨gb, o, rfl, un, hid, hkd, hun, q0, q1, q2⟩ := nod_at HA.out.1 hp
                  obtain ⟨An, cn, rfl, _, _⟩ := hun.form
                  have q0 := cell_below hbr' q0
                  have q1 := cell_below hbr' q1
                  have q2 := cell_below hbr' q2
                  have HST : Hid (prsL a b (k + 1) = prsL a b k ++ (match keptN b n with | some o => propsL n o | none => [])) := prs_snoc hp
                  have hll4 : (l3 ++ prsL a b k).length ≤ 1200 := by have := HPL.out k; rw [List.length_append]; omega
                  have HID := Lib.hid (And.intro hid hkd)
                  have HRN := Lib.hid (HRA.out n (List.mem_of_getElem? hp))
                  have HNG := Lib.hid (keptI_neg b n)
                  have HUN := Lib.hid hun
                  clear hp hun hid hkd
                  -- a call in the middle: 6: the operations ahead; HKB.out n _ (wr.drewN nq) (hbr'.trans (below_drewN (Below.refl _ _) nq)) (HUN.out.below (hbr'.trans (below_drewN (Below.refl _ _) nq))): the contract at the world drawn
                  go_wp2_with fail
                  refine wp_mid_k 6 _ rfl rfl (by kernel_rfl) (by kernel_rfl) ?_
                  simp only [List.take_succ_cons, List.take_zero, List.drop_succ_cons, List.drop_zero]
                  repeat (go_big_quiet_step (fail))
                  refine wpQuiet_nil ?_
                  intro _ hw'
                  obtain ⟨nq, hw''⟩ := hw'
                  subst hw''
                  intro K hK
                  have hx := HKB.out n _ (wr.drewN nq) (hbr'.trans (below_drewN (Below.refl _ _) nq)) (HUN.out.below (hbr'.trans (below_drewN (Below.refl _ _) nq)))
                  go_wp2_with fail
                  refine hx.mono ?_
                  clear hx
                  rintro e w3 ⟨rfl, hb3⟩
                  have hb12 := (below_drewN (Below.refl wr.heap.size wr) nq).trans hb3
                  clear hb3
                  refine hK _ _ ?_
                  repeat (go_big_quiet_step (fail))
                  refine wpQuiet_nil ?_
                  intro _ hw'
                  obtain ⟨nq2, hw''⟩ := hw'
                  subst hw''
                  clear hK
                  have hbW := below_drewN hb12 nq2
                  generalize w3.drewN nq2 = w4 at *
                  have HO4 := Lib.hid (HO.out.below hbW)
                  have hB4 := hbr.trans (hbW.mono HO.out.b)
                  have x0 := cell_below hbW x0
                  have x1 := cell_below hbW x1
                  have y0 := cell_below hbW y0
                  have y1 := cell_below hbW y1
                  have q0 := cell_below hbW q0
                  have q2 := cell_below hbW q2
                  have hbr4 : Below W0.heap.size W0 w4 := by rw [← hBe]; exact hB4
                  clear hbr hbr' HO hbW hb12 q1
                  obtain ⟨wo, hwo⟩ : ∃ wo : World, wo = wr := ⟨_, rfl⟩
                  subst hwo
                  cases hkn : keptN b n with
                  | none =>
                    have HN : Hid (prsL a b (k + 1) = prsL a b k) := by unfold Hid; rw [HST.out, hkn]; simp
                    have hki : keptI b n < 0 := by have := HNG.out; rw [hkn] at this; simpa using this
                    have hkd : decide (keptI b n < 0) = true := decide_eq_true hki
                    clear HNG HST hkn
                    generalize keptI b n = ki at *
                    go_wp2_with fail
                    go_roundw
                    case rel => exact ⟨k + 1, xs, by omega, by go_num, hB4, by rw [HN.out]; exact HO4⟩
                    case measure => simp [intOf]; omega
                  | some m =>
                    have HST2 : Hid (prsL a b (k + 1) = prsL a b k ++ propsL n m) := by unfold Hid; rw [HST.out, hkn]
                    have HRM := Lib.hid (HRB.out m (HKM.out n m hkn))
                    obtain ⟨hki, hpm⟩ := keptI_some hkn
                    rw [hki]
                    clear HNG HST hki hkn
                    generalize fpos b.nodes n.id = i2 at *
                    have hil := (List.getElem?_eq_some_iff.1 hpm).1
                    have hil' : (i2 : Int) < (b.nodes.length : Int) := by omega
                    have hin : ¬ ((i2 : Int) < 0) := by omega
                    obtain ⟨gc, oc, rfl, um, _, _, hum, _, _, p2⟩ := nod_at HB.out.1 hpm
                    obtain ⟨Am, cm, rfl, _, _⟩ := hum.form
                    have p2 := cell_below hbr4 p2
                    have HUM := Lib.hid hum
                    have hln := (rec_ok HRN.out).1
                    have hlm := (rec_ok HRM.out).1
                    clear hpm hum
                    have hbk := heap_alloc_new w4 (.cells #[.int .i64 n.id, .string ⟨#[]⟩, .slice none 0 0] 29)
                    have hbz : B ≤ w4.heap.size := HO4.out.b
                    obtain ⟨bz, hbze⟩ : ∃ bz, bz = w4.heap.size := ⟨_, rfl⟩
                    go_upto_region 26 with fail
                    have ha1 : Below w4.heap.size w4 (w4.alloc (.cells #[.int .i64 n.id, .string ⟨#[]⟩, .slice none 0 0] 29)) := (Below.refl _ _).alloc (Nat.le_refl _) _
                    generalize w4.alloc (.cells #[.int .i64 n.id, .string ⟨#[]⟩, .slice none 0 0] 29) = wa at *
                    have HO5 := Lib.hid (HO4.out.below ha1)
                    have hB5 := hB4.trans (ha1.mono HO4.out.b)
                    rw [← hbze] at hbk hbz
                    rw [← hbze]
                    have HZ5 : Hid (wa.heap[bz]? = some (.cells #[.int .i64 n.id, .string ⟨#[]⟩, .slice none 0 0] 29 (0, 0))) := hbk
                    clear HO4 hB4 hbr4 ha1 hbk hbze x0 x1 y0 y1 q0 q2 p2
                    obtain ⟨lk, hlk⟩ : ∃ l, l3 ++ prsL a b k = l := ⟨_, rfl⟩
                    rw [hlk] at hll4 HO5
                    have HST3 : Hid (l3 ++ prsL a b (k + 1) = lk ++ unsL n m n.props.length ++ setL n m m.props.length) := by
                      unfold Hid; rw [HST2.out, ← List.append_assoc, hlk]; unfold propsL unsL setL; rw [List.take_length, List.take_length, List.append_assoc]
                    clear hlk HST2
                    have HO6 : Hid (OpsF W0 B wa u5 (lk ++ unsL n m 0) xs) := by
                      have : unsL n m 0 = [] := by unfold unsL; rw [List.take_zero]; rfl
                      unfold Hid; rw [this, List.append_nil]; exact HO5.out
                    clear HO5
                    go_wp2_with fail
                    go_loopw [5, 15] (fun ov i wr => ∃ (j : Nat) (xs : List Value), j ≤ n.props.length ∧ i = .int .i64 j ∧ Below B W0 wr ∧ Hid (OpsF W0 B wr ov (lk ++ unsL n m j) xs) ∧ Hid (wr.heap[bz]? = some (.cells #[.int .i64 n.id, .string ⟨#[]⟩, .slice none 0 0] 29 (0, 0)))) (fun _ i _ => n.props.length - (intOf i).toNat)
                    case atStart => exact ⟨0, xs, Nat.zero_le _, rfl, hB5, HO6, HZ5⟩
                    case round =>
                      clear HO6 hB5 HZ5
                      obtain ⟨j, xs, hj, rfl, hbr, HO, HZ⟩ := hrel
                      have hbr' : Below W0.heap.size W0 wr := by rw [← hBe]; exact hbr
                      by_cases hlj : j < n.props.length
                      · obtain ⟨p, hp⟩ : ∃ d, n.props[j]? = some d := ⟨_, List.getElem?_eq_getElem hlj⟩
                        have hlj' : (j : Int) < (n.props.length : Int) := by omega
                        obtain ⟨gp, op, rfl, hpok, r0, r1, r2, r3⟩ := prp_at (HUN.out.below hbr') hp
                        have HSP : Hid (unsL n m (j + 1) = unsL n m j ++ (if (!rhas m.props p.name) = true then [unsetOpr n.id p.name] else [])) := ofilt_snoc _ _ hp
                        have hlu : (unsL n m j).length ≤ j := ofilt_len _ _ _ _
                        have hll5 : (lk ++ unsL n m j).length ≤ 1300 := by rw [List.length_append]; omega
                        have HPK := Lib.hid hpok
                        have HNR := Lib.hid (rat_neg HRM.out p.name)
                        have hx := rat_any m.props p.name _ wr (HUM.out.below hbr')
                        clear hp hpok r1 r2 r3
                        go_wp2_with fail
                        refine hx.mono ?_
                        clear hx
                        rintro e _ ⟨rfl, rfl⟩
                        by_cases hki : atI m.props p.name < 0
                        · have HN : Hid (unsL n m (j + 1) = unsL n m j ++ [unsetOpr n.id p.name]) := by unfold Hid; rw [HSP.out, ← HNR.out, decide_eq_true hki]; rfl
                          have hkd : decide (atI m.props p.name < 0) = true := decide_eq_true hki
                          clear HNR HSP
                          generalize atI m.props p.name = ki at *
                          have z0 := block_cell HZ.out 0
                          have z1 := block_cell HZ.out 1
                          have z2 := block_cell HZ.out 2
                          go_wp2_with fail
                          -- the same in a region that draws
                          -- an op more: unsetOpr n.id p.name: the op; .slice none 0 0: its record's value; wr: the world before it is built; lk ++ unsL n m j: the row of ops; HO: the Hid of OpsF there
                          have hoa := (HO).out.o.alloc (.cells (oprCells (unsetOpr n.id p.name) (.slice none 0 0)) 37)
                          have hsb := (HO).out.b
                          obtain ⟨nl, hnl⟩ : ∃ nl, (lk ++ unsL n m j).length = nl := ⟨_, rfl⟩
                          have hnlb : nl ≤ 100000 := by omega
                          rw [hnl] at hoa
                          have HNL := Lib.hid hnl
                          clear hnl
                          obtain ⟨Ap, cp, hvp, hpc, hpm⟩ := hoa.form
                          subst hvp
                          have HNW : Hid (∀ j u, (oprCells (unsetOpr n.id p.name) (.slice none 0 0)).toList[j]? = some u → ((wr).alloc (.cells (oprCells (unsetOpr n.id p.name) (.slice none 0 0)) 37)).cell? ⟨(wr).heap.size, j, none⟩ = some u) := fun j u hj => by
                            rw [World.cell?_alloc_at _ _ _ _ rfl]; simpa using hj
                          have HOA := Lib.hid hoa
                          have HRA := Lib.hid (HO).out.r
                          have HSB : Hid (B ≤ ((wr).alloc (.cells (oprCells (unsetOpr n.id p.name) (.slice none 0 0)) 37)).heap.size) := Nat.le_trans hsb (Below.alloc (Below.refl _ _) (Nat.le_refl _) (.cells (oprCells (unsetOpr n.id p.name) (.slice none 0 0)) 37)).size
                          clear hoa
                          have HOD : Hid (Own ((wr).alloc (.cells (oprCells (unsetOpr n.id p.name) (.slice none 0 0)) 37)).drew B 37 11 (.slice Ap nl cp) nl (xs)) := HOA.out.below ((Below.refl _ _).drew)
                          have HND : Hid (∀ j u, (oprCells (unsetOpr n.id p.name) (.slice none 0 0)).toList[j]? = some u → ((wr).alloc (.cells (oprCells (unsetOpr n.id p.name) (.slice none 0 0)) 37)).drew.cell? ⟨(wr).heap.size, j, none⟩ = some u) := fun j u hj => by
                            show ((wr).alloc (.cells (oprCells (unsetOpr n.id p.name) (.slice none 0 0)) 37)).cell? ⟨(wr).heap.size, j, none⟩ = some u
                            exact HNW.out j u hj
                          go_region_law
                            (first
                              | (refine step_here rfl ?_
                                 refine wp_append_q _ (.tmp 147) (.tmp 156) _ rfl B 37 i0 opr0 11 136 Tryz.underlying38 ei ez ez1 ez2 rfl (by decide) (.slice Ap nl cp) nl (xs) rfl HOD.out (some ⟨(wr).heap.size, 0, none⟩) 1 1 (oprCells (unsetOpr n.id p.name) (.slice none 0 0)).toList rfl rfl (fun _ => ⟨_, rfl, fun j u hj => by rw [addr_add, Nat.zero_add]; exact HND.out j u hj⟩) (fun u hu => by simp [oprCells] at hu; rcases hu with rfl | rfl | rfl | rfl | rfl | rfl | rfl | rfl | rfl | rfl | rfl <;> rfl) (by unfold maxLen; omega) (by omega) (show B ≤ ((wr).alloc (.cells (oprCells (unsetOpr n.id p.name) (.slice none 0 0)) 37)).heap.size from HSB.out) ?_
                                 intro v7 w7 hown7 hg7 hat7))
                          all_goals
                            -- unsetOpr n.id p.name: the op; .slice none 0 0: its record's value; HID.out.1 sm_empty ⟨HPK.out.1, i64_zero, i64_zero, sm_empty⟩ tie0_ok (Sl.nil 0 (Nat.zero_le _) none): its facts; HOD: the world's HOA or HOD; HSB.out: that B is below; lk ++ unsL n m (j + 1): the list behind; xs: its cells; (hbr.alloc HO.out.b _).drew: Below from W0 to the world ahead of the append
                            have hpush := OpsF.push HNL.out (HOD).out HRA.out (HSB.out) (m := [unsetOpr n.id p.name]) (ys := (oprCells (unsetOpr n.id p.name) (.slice none 0 0)).toList) (RefOps.one HID.out.1 sm_empty ⟨HPK.out.1, i64_zero, i64_zero, sm_empty⟩ tie0_ok (Sl.nil 0 (Nat.zero_le _) none)) hown7 hg7
                            have hB7 : Below B W0 w7 := ((hbr.alloc HO.out.b _).drew).trans hpush.2.1
                            have hsm7 := hpush.2.2
                            have HO7 : Hid (OpsF W0 B w7 v7 (lk ++ unsL n m (j + 1)) ((xs) ++ (oprCells (unsetOpr n.id p.name) (.slice none 0 0)).toList)) := by unfold Hid; rw [HN.out]; first | exact hpush.1 | (rw [← List.append_assoc]; exact hpush.1)
                            clear hpush hg7 hat7 hown7 HOA HRA HNW
                            have HZ7 : Hid (w7.heap[bz]? = some (.cells #[.int .i64 n.id, .string ⟨#[]⟩, .slice none 0 0] 29 (0, 0))) := hsm7.1 _ _ _ (((((Below.refl _ _).alloc (Nat.le_refl _) _).drew).block _ (Array.getElem?_eq_some_iff.1 HZ.out).1).trans HZ.out)
                            go_wp2_with fail
                            go_roundw
                            case rel => exact ⟨j + 1, _, by omega, by go_num, hB7, HO7, HZ7⟩
                            case measure => simp [intOf]; omega
                        · have HN : Hid (unsL n m (j + 1) = unsL n m j) := by unfold Hid; rw [HSP.out, ← HNR.out, decide_eq_false hki]; simp
                          have hkd : decide (atI m.props p.name < 0) = false := decide_eq_false hki
                          clear HNR HSP
                          generalize atI m.props p.name = ki at *
                          go_wp2_with fail
                          go_roundw
                          case rel => exact ⟨j + 1, xs, by omega, by go_num, hbr, by rw [HN.out]; exact HO, HZ⟩
                          case measure => simp [intOf]; omega
                      · obtain rfl : j = n.props.length := by omega
                        have hll5 : (lk ++ unsL n m n.props.length).length ≤ 1300 := by have := ofilt_len (fun p : Prp => unsetOpr n.id p.name) (fun p => !rhas m.props p.name) n.props n.props.length; rw [List.length_append]; unfold unsL; omega
                        obtain ⟨lp, hlp⟩ : ∃ l, lk ++ unsL n m n.props.length = l := ⟨_, rfl⟩
                        rw [hlp] at hll5 HO
                        have HST4 : Hid (l3 ++ prsL a b (k + 1) = lp ++ setL n m m.props.length) := by unfold Hid; rw [HST3.out, hlp]
                        have HO6 : Hid (OpsF W0 B wr u5 (lp ++ setL n m 0) xs) := by
                          have : setL n m 0 = [] := by unfold setL; rw [List.take_zero]; rfl
                          unfold Hid; rw [this, List.append_nil]; exact HO.out
                        have HZ5 := HZ
                        have hB5 := hbr
                        clear hlp HST3 HO hbr hbr' HZ
                        go_wp2_with fail
                        go_loopw [5, 16] (fun ov i wr => ∃ (j : Nat) (xs : List Value), j ≤ m.props.length ∧ i = .int .i64 j ∧ Below B W0 wr ∧ Hid (OpsF W0 B wr ov (lp ++ setL n m j) xs) ∧ Hid (wr.heap[bz]? = some (.cells #[.int .i64 n.id, .string ⟨#[]⟩, .slice none 0 0] 29 (0, 0)))) (fun _ i _ => m.props.length - (intOf i).toNat)
                        case atStart => exact ⟨0, xs, Nat.zero_le _, rfl, hB5, HO6, HZ5⟩
                        case round =>
                          clear HO6 hB5 HZ5
                          obtain ⟨j, xs, hj, rfl, hbr, HO, HZ⟩ := hrel
                          have hbr' : Below W0.heap.size W0 wr := by rw [← hBe]; exact hbr
                          by_cases hlj : j < m.props.length
                          · obtain ⟨p, hp⟩ : ∃ d, m.props[j]? = some d := ⟨_, List.getElem?_eq_getElem hlj⟩
                            have hlj' : (j : Int) < (m.props.length : Int) := by omega
                            obtain ⟨gp, op, rfl, hpok, r0, r1, r2, r3⟩ := prp_at (HUM.out.below hbr') hp
                            have HSP : Hid (setL n m (j + 1) = setL n m j ++ (if decide (p ∉ n.props) = true then [setOpr n.id p] else [])) := ofilt_snoc _ _ hp
                            have hlu : (setL n m j).length ≤ j := ofilt_len _ _ _ _
                            have hll6 : (lp ++ setL n m j).length ≤ 1400 := by rw [List.length_append]; omega
                            have HPK := Lib.hid hpok
                            obtain ⟨sn1, sn2⟩ := set_new (x := n.props) HRN.out (p := p)
                            have HS1 := Lib.hid sn1
                            have HS2 := Lib.hid sn2
                            have HGE : Hid (0 ≤ atI n.props p.name → ∃ (i : Nat) (q : Prp), atI n.props p.name = i ∧ n.props[i]? = some q) := fun h => by
                              obtain ⟨i, q, h1, h2, _⟩ := idxI_nonneg h
                              exact ⟨i, q, h1, h2⟩
                            have hx := rat_any n.props p.name _ wr (HUN.out.below hbr')
                            clear hp hpok sn1 sn2
                            go_wp2_with fail
                            refine hx.mono ?_
                            clear hx
                            rintro e _ ⟨rfl, rfl⟩
                            have z0 := block_cell HZ.out 0
                            have z1 := block_cell HZ.out 1
                            have z2 := block_cell HZ.out 2
                            by_cases hki : atI n.props p.name < 0
                            · have HN : Hid (setL n m (j + 1) = setL n m j ++ [setOpr n.id p]) := by unfold Hid; rw [HSP.out, HS1.out hki]; rfl
                              have hkd : decide (atI n.props p.name < 0) = true := decide_eq_true hki
                              clear HS1 HS2 HGE HSP
                              generalize atI n.props p.name = ki at *
                              go_wp2_with fail
                              go_quiet (fail)
                              -- a property that is set
                              have HOq := Lib.hid (HO.out.below (below_drewN (Below.refl wr.heap.size wr) nq))
                              have hBq := below_drewN hbr nq
                              have HZq : Hid ((wr.drewN nq).heap[bz]? = some (.cells #[.int .i64 n.id, .string ⟨#[]⟩, .slice none 0 0] 29 (0, 0))) := HZ
                              go_wp2_with fail
                              -- the same in a region that draws
                              -- an op more: setOpr n.id p: the op; .slice none 0 0: its record's value; wr.drewN nq: the world before it is built; lp ++ setL n m j: the row of ops; HOq: the Hid of OpsF there
                              have hoa := (HOq).out.o.alloc (.cells (oprCells (setOpr n.id p) (.slice none 0 0)) 37)
                              have hsb := (HOq).out.b
                              obtain ⟨nl, hnl⟩ : ∃ nl, (lp ++ setL n m j).length = nl := ⟨_, rfl⟩
                              have hnlb : nl ≤ 100000 := by omega
                              rw [hnl] at hoa
                              have HNL := Lib.hid hnl
                              clear hnl
                              obtain ⟨Ap, cp, hvp, hpc, hpm⟩ := hoa.form
                              subst hvp
                              have HNW : Hid (∀ j u, (oprCells (setOpr n.id p) (.slice none 0 0)).toList[j]? = some u → ((wr.drewN nq).alloc (.cells (oprCells (setOpr n.id p) (.slice none 0 0)) 37)).cell? ⟨(wr.drewN nq).heap.size, j, none⟩ = some u) := fun j u hj => by
                                rw [World.cell?_alloc_at _ _ _ _ rfl]; simpa using hj
                              have HOA := Lib.hid hoa
                              have HRA := Lib.hid (HOq).out.r
                              have HSB : Hid (B ≤ ((wr.drewN nq).alloc (.cells (oprCells (setOpr n.id p) (.slice none 0 0)) 37)).heap.size) := Nat.le_trans hsb (Below.alloc (Below.refl _ _) (Nat.le_refl _) (.cells (oprCells (setOpr n.id p) (.slice none 0 0)) 37)).size
                              clear hoa
                              have HOD : Hid (Own ((wr.drewN nq).alloc (.cells (oprCells (setOpr n.id p) (.slice none 0 0)) 37)).drew B 37 11 (.slice Ap nl cp) nl (xs)) := HOA.out.below ((Below.refl _ _).drew)
                              have HND : Hid (∀ j u, (oprCells (setOpr n.id p) (.slice none 0 0)).toList[j]? = some u → ((wr.drewN nq).alloc (.cells (oprCells (setOpr n.id p) (.slice none 0 0)) 37)).drew.cell? ⟨(wr.drewN nq).heap.size, j, none⟩ = some u) := fun j u hj => by
                                show ((wr.drewN nq).alloc (.cells (oprCells (setOpr n.id p) (.slice none 0 0)) 37)).cell? ⟨(wr.drewN nq).heap.size, j, none⟩ = some u
                                exact HNW.out j u hj
                              go_region_law
                                (first
                                  | (refine step_here rfl ?_
                                     refine wp_append_q _ (.tmp 186) (.tmp 193) _ rfl B 37 i0 opr0 11 136 Tryz.underlying38 ei ez ez1 ez2 rfl (by decide) (.slice Ap nl cp) nl (xs) rfl HOD.out (some ⟨(wr.drewN nq).heap.size, 0, none⟩) 1 1 (oprCells (setOpr n.id p) (.slice none 0 0)).toList rfl rfl (fun _ => ⟨_, rfl, fun j u hj => by rw [addr_add, Nat.zero_add]; exact HND.out j u hj⟩) (fun u hu => by simp [oprCells] at hu; rcases hu with rfl | rfl | rfl | rfl | rfl | rfl | rfl | rfl | rfl | rfl | rfl <;> rfl) (by unfold maxLen; omega) (by omega) (show B ≤ ((wr.drewN nq).alloc (.cells (oprCells (setOpr n.id p) (.slice none 0 0)) 37)).heap.size from HSB.out) ?_
                                     intro v7 w7 hown7 hg7 hat7))
                              all_goals
                                -- setOpr n.id p: the op; .slice none 0 0: its record's value; HID.out.1 sm_empty HPK.out tie0_ok (Sl.nil 0 (Nat.zero_le _) none): its facts; HOD: the world's HOA or HOD; HSB.out: that B is below; lp ++ setL n m (j + 1): the list behind; xs: its cells; (hBq.alloc HOq.out.b _).drew: Below from W0 to the world ahead of the append
                                have hpush := OpsF.push HNL.out (HOD).out HRA.out (HSB.out) (m := [setOpr n.id p]) (ys := (oprCells (setOpr n.id p) (.slice none 0 0)).toList) (RefOps.one HID.out.1 sm_empty HPK.out tie0_ok (Sl.nil 0 (Nat.zero_le _) none)) hown7 hg7
                                have hB7 : Below B W0 w7 := ((hBq.alloc HOq.out.b _).drew).trans hpush.2.1
                                have hsm7 := hpush.2.2
                                have HO7 : Hid (OpsF W0 B w7 v7 (lp ++ setL n m (j + 1)) ((xs) ++ (oprCells (setOpr n.id p) (.slice none 0 0)).toList)) := by unfold Hid; rw [HN.out]; first | exact hpush.1 | (rw [← List.append_assoc]; exact hpush.1)
                                clear hpush hg7 hat7 hown7 HOA HRA HNW
                                have HZ7 : Hid (w7.heap[bz]? = some (.cells #[.int .i64 n.id, .string ⟨#[]⟩, .slice none 0 0] 29 (0, 0))) := hsm7.1 _ _ _ (((((Below.refl _ _).alloc (Nat.le_refl _) _).drew).block _ (Array.getElem?_eq_some_iff.1 HZq.out).1).trans HZq.out)
                                go_wp2_with fail
                                go_roundw
                                case rel => exact ⟨j + 1, _, by omega, by go_num, hB7, HO7, HZ7⟩
                                case measure => simp [intOf]; omega
                            · obtain ⟨i2, q, hqi, hq⟩ := HGE.out (by omega)
                              have hme := HS2.out i2 q hqi hq
                              rw [hqi]
                              have hil := (List.getElem?_eq_some_iff.1 hq).1
                              have hil' : (i2 : Int) < (n.props.length : Int) := by omega
                              have hin : ¬ ((i2 : Int) < 0) := by omega
                              have hind : decide ((i2 : Int) < 0) = false := decide_eq_false hin
                              obtain ⟨gq, oq, rfl, _, s0, s1, s2, s3⟩ := prp_at (HUN.out.below hbr') hq
                              have hneq := dval_neq q.v p.v
                              have hgd := dval_guard
                              clear HS1 HS2 HGE hqi hki hq
                              by_cases hv : q.v = p.v
                              · have HN : Hid (setL n m (j + 1) = setL n m j) := by unfold Hid; rw [HSP.out, hme, decide_eq_true hv]; simp
                                rw [decide_eq_true hv] at hneq
                                clear HSP hme hv
                                go_wp2_with fail
                                go_quiet (fail)
                                go_wp2_with fail
                                go_roundw
                                case rel => exact ⟨j + 1, xs, by omega, by go_num, below_drewN hbr _, by rw [HN.out]; exact HO.out.below (below_drewN (Below.refl _ _) _), HZ⟩
                                case measure => simp [intOf]; omega
                              · have HN : Hid (setL n m (j + 1) = setL n m j ++ [setOpr n.id p]) := by unfold Hid; rw [HSP.out, hme, decide_eq_false hv]; rfl
                                rw [decide_eq_false hv] at hneq
                                clear HSP hme hv
                                go_wp2_with fail
                                go_quiet (fail)
                                clear s0 s1 s2 s3 hneq hgd
                                -- a property that is set
                                have HOq := Lib.hid (HO.out.below (below_drewN (Below.refl wr.heap.size wr) nq))
                                have hBq := below_drewN hbr nq
                                have HZq : Hid ((wr.drewN nq).heap[bz]? = some (.cells #[.int .i64 n.id, .string ⟨#[]⟩, .slice none 0 0] 29 (0, 0))) := HZ
                                go_wp2_with fail
                                -- the same in a region that draws
                                -- an op more: setOpr n.id p: the op; .slice none 0 0: its record's value; wr.drewN nq: the world before it is built; lp ++ setL n m j: the row of ops; HOq: the Hid of OpsF there
                                have hoa := (HOq).out.o.alloc (.cells (oprCells (setOpr n.id p) (.slice none 0 0)) 37)
                                have hsb := (HOq).out.b
                                obtain ⟨nl, hnl⟩ : ∃ nl, (lp ++ setL n m j).length = nl := ⟨_, rfl⟩
                                have hnlb : nl ≤ 100000 := by omega
                                rw [hnl] at hoa
                                have HNL := Lib.hid hnl
                                clear hnl
                                obtain ⟨Ap, cp, hvp, hpc, hpm⟩ := hoa.form
                                subst hvp
                                have HNW : Hid (∀ j u, (oprCells (setOpr n.id p) (.slice none 0 0)).toList[j]? = some u → ((wr.drewN nq).alloc (.cells (oprCells (setOpr n.id p) (.slice none 0 0)) 37)).cell? ⟨(wr.drewN nq).heap.size, j, none⟩ = some u) := fun j u hj => by
                                  rw [World.cell?_alloc_at _ _ _ _ rfl]; simpa using hj
                                have HOA := Lib.hid hoa
                                have HRA := Lib.hid (HOq).out.r
                                have HSB : Hid (B ≤ ((wr.drewN nq).alloc (.cells (oprCells (setOpr n.id p) (.slice none 0 0)) 37)).heap.size) := Nat.le_trans hsb (Below.alloc (Below.refl _ _) (Nat.le_refl _) (.cells (oprCells (setOpr n.id p) (.slice none 0 0)) 37)).size
                                clear hoa
                                have HOD : Hid (Own ((wr.drewN nq).alloc (.cells (oprCells (setOpr n.id p) (.slice none 0 0)) 37)).drew B 37 11 (.slice Ap nl cp) nl (xs)) := HOA.out.below ((Below.refl _ _).drew)
                                have HND : Hid (∀ j u, (oprCells (setOpr n.id p) (.slice none 0 0)).toList[j]? = some u → ((wr.drewN nq).alloc (.cells (oprCells (setOpr n.id p) (.slice none 0 0)) 37)).drew.cell? ⟨(wr.drewN nq).heap.size, j, none⟩ = some u) := fun j u hj => by
                                  show ((wr.drewN nq).alloc (.cells (oprCells (setOpr n.id p) (.slice none 0 0)) 37)).cell? ⟨(wr.drewN nq).heap.size, j, none⟩ = some u
                                  exact HNW.out j u hj
                                go_region_law
                                  (first
                                    | (refine step_here rfl ?_
                                       refine wp_append_q _ (.tmp 186) (.tmp 193) _ rfl B 37 i0 opr0 11 136 Tryz.underlying38 ei ez ez1 ez2 rfl (by decide) (.slice Ap nl cp) nl (xs) rfl HOD.out (some ⟨(wr.drewN nq).heap.size, 0, none⟩) 1 1 (oprCells (setOpr n.id p) (.slice none 0 0)).toList rfl rfl (fun _ => ⟨_, rfl, fun j u hj => by rw [addr_add, Nat.zero_add]; exact HND.out j u hj⟩) (fun u hu => by simp [oprCells] at hu; rcases hu with rfl | rfl | rfl | rfl | rfl | rfl | rfl | rfl | rfl | rfl | rfl <;> rfl) (by unfold maxLen; omega) (by omega) (show B ≤ ((wr.drewN nq).alloc (.cells (oprCells (setOpr n.id p) (.slice none 0 0)) 37)).heap.size from HSB.out) ?_
                                       intro v7 w7 hown7 hg7 hat7))
                                all_goals
                                  -- setOpr n.id p: the op; .slice none 0 0: its record's value; HID.out.1 sm_empty HPK.out tie0_ok (Sl.nil 0 (Nat.zero_le _) none): its facts; HOD: the world's HOA or HOD; HSB.out: that B is below; lp ++ setL n m (j + 1): the list behind; xs: its cells; (hBq.alloc HOq.out.b _).drew: Below from W0 to the world ahead of the append
                                  have hpush := OpsF.push HNL.out (HOD).out HRA.out (HSB.out) (m := [setOpr n.id p]) (ys := (oprCells (setOpr n.id p) (.slice none 0 0)).toList) (RefOps.one HID.out.1 sm_empty HPK.out tie0_ok (Sl.nil 0 (Nat.zero_le _) none)) hown7 hg7
                                  have hB7 : Below B W0 w7 := ((hBq.alloc HOq.out.b _).drew).trans hpush.2.1
                                  have hsm7 := hpush.2.2
                                  have HO7 : Hid (OpsF W0 B w7 v7 (lp ++ setL n m (j + 1)) ((xs) ++ (oprCells (setOpr n.id p) (.slice none 0 0)).toList)) := by unfold Hid; rw [HN.out]; first | exact hpush.1 | (rw [← List.append_assoc]; exact hpush.1)
                                  clear hpush hg7 hat7 hown7 HOA HRA HNW
                                  have HZ7 : Hid (w7.heap[bz]? = some (.cells #[.int .i64 n.id, .string ⟨#[]⟩, .slice none 0 0] 29 (0, 0))) := hsm7.1 _ _ _ (((((Below.refl _ _).alloc (Nat.le_refl _) _).drew).block _ (Array.getElem?_eq_some_iff.1 HZq.out).1).trans HZq.out)
                                  go_wp2_with fail
                                  go_roundw
                                  case rel => exact ⟨j + 1, _, by omega, by go_num, hB7, HO7, HZ7⟩
                                  case measure => simp [intOf]; omega
                          · obtain rfl : j = m.props.length := by omega
                            have HN : Hid (l3 ++ prsL a b (k + 1) = lp ++ setL n m m.props.length) := HST4
                            go_wp2_with fail
                            go_roundw
                            case rel => exact ⟨k + 1, xs, by omega, by go_num, hbr, by rw [HN.out]; exact HO⟩
                            case measure => simp [intOf]; omega
                · obtain rfl : k = a.nodes.length := by omega
                  have hll4 : (l3 ++ prsL a b a.nodes.length).length ≤ 1200 := by have := HPL.out a.nodes.length; rw [List.length_append]; omega
                  obtain ⟨l4, hl4⟩ : ∃ l, l3 ++ prsL a b a.nodes.length = l := ⟨_, rfl⟩
                  have HE4 : Hid (diffL a b = l4 ++ binL a b b.ties.length) := by unfold Hid; rw [HE3.out, hl4]
                  rw [hl4] at hll4 HO
                  have HO1 : Hid (OpsF W0 B wr u5 (l4 ++ binL a b 0) xs) := by
                    have : binL a b 0 = [] := by unfold binL; rw [List.take_zero]; rfl
                    unfold Hid; rw [this, List.append_nil]; exact HO.out
                  have hbr1 := hbr
                  clear hl4 HE3 HO hbr hbr' HKB HPL HRA HRB HKM
                  go_wp2_with fail
                  clear x0 x1 y0 y1
                  -- the ties that are new
                  go_loopw [5, 18] (fun ov i wr => ∃ (k : Nat) (xs : List Value), k ≤ b.ties.length ∧ i = .int .i64 k ∧ Below B W0 wr ∧ Hid (OpsF W0 B wr ov (l4 ++ binL a b k) xs)) (fun _ i _ => b.ties.length - (intOf i).toNat)
                  case atStart => exact ⟨0, xs, Nat.zero_le _, rfl, hbr1, HO1⟩
                  case round =>
                    clear HO1 hbr1
                    obtain ⟨k, xs, hk, rfl, hbr, HO⟩ := hrel
                    have hbr' : Below W0.heap.size W0 wr := by rw [← hBe]; exact hbr
                    have x0 := cell_below hbr' X0.out
                    have x1 := cell_below hbr' X1.out
                    have y0 := cell_below hbr' Y0.out
                    have y1 := cell_below hbr' Y1.out
                    by_cases hlt : k < b.ties.length
                    · obtain ⟨t, hp⟩ : ∃ d, b.ties[k]? = some d := ⟨_, List.getElem?_eq_getElem hlt⟩
                      have hlt' : (k : Int) < (b.ties.length : Int) := by omega
                      obtain ⟨gb, o, rfl, hpok, q0, q1, q2⟩ := tie_at (HB.out.below hbr').2 hp
                      have hbk := heap_alloc_new wr (.cells #[.string t.bond, .int .i64 t.src, .int .i64 t.dst] 35)
                      have ha1 : Below wr.heap.size wr (wr.alloc (.cells #[.string t.bond, .int .i64 t.src, .int .i64 t.dst] 35)) := (Below.refl _ _).alloc (Nat.le_refl _) _
                      have HST : Hid (binL a b (k + 1) = binL a b k ++ (if decide (t ∉ a.ties ∨ t.src ∈ lostIds a b ∨ t.dst ∈ lostIds a b) = true then [bindOpr t] else [])) := ofilt_snoc _ _ hp
                      have hll : (binL a b k).length ≤ k := ofilt_len _ _ _ _
                      have hll5 : (l4 ++ binL a b k).length ≤ 1400 := by rw [List.length_append]; omega
                      have HPK := Lib.hid hpok
                      clear hp hpok
                      go_upto_region 41 with fail
                      generalize wr.alloc (.cells #[.string t.bond, .int .i64 t.src, .int .i64 t.dst] 35) = wa at *
                      have hWa := hbr'.trans (ha1.mono hbr'.size)
                      have x0 := cell_below hWa X0.out
                      have x1 := cell_below hWa X1.out
                      have z0 := block_cell hbk 0
                      have z1 := block_cell hbk 1
                      have z2 := block_cell hbk 2
                      have hx := HTA.out t wa hWa
                      have HOa := Lib.hid (HO.out.below ha1)
                      have hBa := hbr.trans (ha1.mono HO.out.b)
                      clear q0 q1 q2 y0 y1 hbr hbr' HO ha1 hbk
                      go_wp2_with fail
                      refine hx.mono ?_
                      clear hx
                      rintro e w2 ⟨rfl, hb2⟩
                      have hW2 := hWa.trans (hb2.mono hWa.size)
                      have x0 := cell_below hb2 x0
                      have x1 := cell_below hb2 x1
                      have y0 := cell_below hW2 Y0.out
                      have y1 := cell_below hW2 Y1.out
                      have z0 := cell_below hb2 z0
                      have z1 := cell_below hb2 z1
                      have z2 := cell_below hb2 z2
                      have HO2 := Lib.hid (HOa.out.below hb2)
                      have hB2 := hBa.trans (hb2.mono HOa.out.b)
                      have hx := HLO.out t.src w2 hW2
                      clear HOa hBa hWa hb2
                      go_wp2_with fail
                      refine hx.mono ?_
                      clear hx
                      rintro e w3 ⟨rfl, hb3⟩
                      have hW3 := hW2.trans (hb3.mono hW2.size)
                      have x0 := cell_below hb3 x0
                      have x1 := cell_below hb3 x1
                      have y0 := cell_below hb3 y0
                      have y1 := cell_below hb3 y1
                      have z0 := cell_below hb3 z0
                      have z1 := cell_below hb3 z1
                      have z2 := cell_below hb3 z2
                      have HO3 := Lib.hid (HO2.out.below hb3)
                      have hB3 := hB2.trans (hb3.mono HO2.out.b)
                      have hx := HLO.out t.dst w3 hW3
                      clear HO2 hB2 hW2 hb3
                      go_wp2_with fail
                      refine hx.mono ?_
                      clear hx x0 x1 y0 y1
                      rintro e w4 ⟨rfl, hb4⟩
                      have z0 := cell_below hb4 z0
                      have z1 := cell_below hb4 z1
                      have z2 := cell_below hb4 z2
                      have HO4 := Lib.hid (HO3.out.below hb4)
                      have hB4 := hB3.trans (hb4.mono HO3.out.b)
                      clear HO3 hB3 hW3 hb4
                      have HN1 : Hid ((!decide (t ∈ a.ties) || decide (t.src ∈ lostIds a b) || decide (t.dst ∈ lostIds a b)) = true → binL a b (k + 1) = binL a b k ++ [bindOpr t]) := fun h => by
                        rw [HST.out]
                        have h2 : decide (t ∉ a.ties ∨ t.src ∈ lostIds a b ∨ t.dst ∈ lostIds a b) = true := by simpa [or_assoc] using h
                        rw [h2]; rfl
                      have HN0 : Hid ((!decide (t ∈ a.ties) || decide (t.src ∈ lostIds a b) || decide (t.dst ∈ lostIds a b)) = false → binL a b (k + 1) = binL a b k) := fun h => by
                        rw [HST.out]
                        have h2 : decide (t ∉ a.ties ∨ t.src ∈ lostIds a b ∨ t.dst ∈ lostIds a b) = false := by simpa [or_assoc, and_assoc] using h
                        rw [h2]; simp
                      clear HST
                      generalize decide (t ∈ a.ties) = d1 at *
                      generalize decide (t.src ∈ lostIds a b) = d2 at *
                      generalize decide (t.dst ∈ lostIds a b) = d3 at *
                      cases d1 with
                      | false =>
                        have HN := Lib.hid (HN1.out rfl)
                        clear HN1 HN0
                        -- 228, 231: the slots; bindOpr t: the op; .slice none 0 0: its record's value; w4: the world before; l4 ++ binL a b k: the row; xs: its cells; HO4: the Hid of OpsF
                        -- an op more: bindOpr t: the op; .slice none 0 0: its record's value; w4: the world before it is built; l4 ++ binL a b k: the row of ops; HO4: the Hid of OpsF there
                        have hoa := (HO4).out.o.alloc (.cells (oprCells (bindOpr t) (.slice none 0 0)) 37)
                        have hsb := (HO4).out.b
                        obtain ⟨nl, hnl⟩ : ∃ nl, (l4 ++ binL a b k).length = nl := ⟨_, rfl⟩
                        have hnlb : nl ≤ 100000 := by omega
                        rw [hnl] at hoa
                        have HNL := Lib.hid hnl
                        clear hnl
                        obtain ⟨Ap, cp, hvp, hpc, hpm⟩ := hoa.form
                        subst hvp
                        have HNW : Hid (∀ j u, (oprCells (bindOpr t) (.slice none 0 0)).toList[j]? = some u → ((w4).alloc (.cells (oprCells (bindOpr t) (.slice none 0 0)) 37)).cell? ⟨(w4).heap.size, j, none⟩ = some u) := fun j u hj => by
                          rw [World.cell?_alloc_at _ _ _ _ rfl]; simpa using hj
                        have HOA := Lib.hid hoa
                        have HRA := Lib.hid (HO4).out.r
                        have HSB : Hid (B ≤ ((w4).alloc (.cells (oprCells (bindOpr t) (.slice none 0 0)) 37)).heap.size) := Nat.le_trans hsb (Below.alloc (Below.refl _ _) (Nat.le_refl _) (.cells (oprCells (bindOpr t) (.slice none 0 0)) 37)).size
                        clear hoa
                        go_wp2_with (first
                          | (at_builtin; refine wpList_append_q _ rfl (.tmp 228) (.tmp 231) _ rfl B 37 i0 opr0 11 136 Tryz.underlying38 ei ez ez1 ez2 rfl (by decide) (.slice Ap nl cp) nl (xs) rfl HOA.out (some ⟨(w4).heap.size, 0, none⟩) 1 1 (oprCells (bindOpr t) (.slice none 0 0)).toList rfl rfl (fun _ => ⟨_, rfl, fun j u hj => by rw [addr_add, Nat.zero_add]; exact HNW.out j u hj⟩) (fun u hu => by simp [oprCells] at hu; rcases hu with rfl | rfl | rfl | rfl | rfl | rfl | rfl | rfl | rfl | rfl | rfl <;> rfl) (by unfold maxLen; omega) (by omega) HSB.out ?_; intro v7 w7 hown7 hg7 hat7))
                        -- bindOpr t: the op; .slice none 0 0: its record's value; i64_zero sm_empty prp0_ok HPK.out (Sl.nil 0 (Nat.zero_le _) none): its facts; HOA: the world's HOA or HOD; HSB.out: that B is below; l4 ++ binL a b (k + 1): the list behind; xs: its cells; hB4.alloc HO4.out.b _: Below from W0 to the world ahead of the append
                        have hpush := OpsF.push HNL.out (HOA).out HRA.out (HSB.out) (m := [bindOpr t]) (ys := (oprCells (bindOpr t) (.slice none 0 0)).toList) (RefOps.one i64_zero sm_empty prp0_ok HPK.out (Sl.nil 0 (Nat.zero_le _) none)) hown7 hg7
                        have hB7 : Below B W0 w7 := (hB4.alloc HO4.out.b _).trans hpush.2.1
                        have hsm7 := hpush.2.2
                        have HO7 : Hid (OpsF W0 B w7 v7 (l4 ++ binL a b (k + 1)) ((xs) ++ (oprCells (bindOpr t) (.slice none 0 0)).toList)) := by unfold Hid; rw [HN.out]; first | exact hpush.1 | (rw [← List.append_assoc]; exact hpush.1)
                        clear hpush hg7 hat7 hown7 HOA HRA HNW
                        go_roundw
                        case rel => exact ⟨k + 1, _, by omega, by go_num, hB7, HO7⟩
                        case measure => simp [intOf]; omega
                      | true =>
                        cases d2 with
                        | true =>
                          have HN := Lib.hid (HN1.out rfl)
                          clear HN1 HN0
                          -- 228, 231: the slots; bindOpr t: the op; .slice none 0 0: its record's value; w4: the world before; l4 ++ binL a b k: the row; xs: its cells; HO4: the Hid of OpsF
                          -- an op more: bindOpr t: the op; .slice none 0 0: its record's value; w4: the world before it is built; l4 ++ binL a b k: the row of ops; HO4: the Hid of OpsF there
                          have hoa := (HO4).out.o.alloc (.cells (oprCells (bindOpr t) (.slice none 0 0)) 37)
                          have hsb := (HO4).out.b
                          obtain ⟨nl, hnl⟩ : ∃ nl, (l4 ++ binL a b k).length = nl := ⟨_, rfl⟩
                          have hnlb : nl ≤ 100000 := by omega
                          rw [hnl] at hoa
                          have HNL := Lib.hid hnl
                          clear hnl
                          obtain ⟨Ap, cp, hvp, hpc, hpm⟩ := hoa.form
                          subst hvp
                          have HNW : Hid (∀ j u, (oprCells (bindOpr t) (.slice none 0 0)).toList[j]? = some u → ((w4).alloc (.cells (oprCells (bindOpr t) (.slice none 0 0)) 37)).cell? ⟨(w4).heap.size, j, none⟩ = some u) := fun j u hj => by
                            rw [World.cell?_alloc_at _ _ _ _ rfl]; simpa using hj
                          have HOA := Lib.hid hoa
                          have HRA := Lib.hid (HO4).out.r
                          have HSB : Hid (B ≤ ((w4).alloc (.cells (oprCells (bindOpr t) (.slice none 0 0)) 37)).heap.size) := Nat.le_trans hsb (Below.alloc (Below.refl _ _) (Nat.le_refl _) (.cells (oprCells (bindOpr t) (.slice none 0 0)) 37)).size
                          clear hoa
                          go_wp2_with (first
                            | (at_builtin; refine wpList_append_q _ rfl (.tmp 228) (.tmp 231) _ rfl B 37 i0 opr0 11 136 Tryz.underlying38 ei ez ez1 ez2 rfl (by decide) (.slice Ap nl cp) nl (xs) rfl HOA.out (some ⟨(w4).heap.size, 0, none⟩) 1 1 (oprCells (bindOpr t) (.slice none 0 0)).toList rfl rfl (fun _ => ⟨_, rfl, fun j u hj => by rw [addr_add, Nat.zero_add]; exact HNW.out j u hj⟩) (fun u hu => by simp [oprCells] at hu; rcases hu with rfl | rfl | rfl | rfl | rfl | rfl | rfl | rfl | rfl | rfl | rfl <;> rfl) (by unfold maxLen; omega) (by omega) HSB.out ?_; intro v7 w7 hown7 hg7 hat7))
                          -- bindOpr t: the op; .slice none 0 0: its record's value; i64_zero sm_empty prp0_ok HPK.out (Sl.nil 0 (Nat.zero_le _) none): its facts; HOA: the world's HOA or HOD; HSB.out: that B is below; l4 ++ binL a b (k + 1): the list behind; xs: its cells; hB4.alloc HO4.out.b _: Below from W0 to the world ahead of the append
                          have hpush := OpsF.push HNL.out (HOA).out HRA.out (HSB.out) (m := [bindOpr t]) (ys := (oprCells (bindOpr t) (.slice none 0 0)).toList) (RefOps.one i64_zero sm_empty prp0_ok HPK.out (Sl.nil 0 (Nat.zero_le _) none)) hown7 hg7
                          have hB7 : Below B W0 w7 := (hB4.alloc HO4.out.b _).trans hpush.2.1
                          have hsm7 := hpush.2.2
                          have HO7 : Hid (OpsF W0 B w7 v7 (l4 ++ binL a b (k + 1)) ((xs) ++ (oprCells (bindOpr t) (.slice none 0 0)).toList)) := by unfold Hid; rw [HN.out]; first | exact hpush.1 | (rw [← List.append_assoc]; exact hpush.1)
                          clear hpush hg7 hat7 hown7 HOA HRA HNW
                          go_roundw
                          case rel => exact ⟨k + 1, _, by omega, by go_num, hB7, HO7⟩
                          case measure => simp [intOf]; omega
                        | false =>
                          cases d3 with
                          | true =>
                            have HN := Lib.hid (HN1.out rfl)
                            clear HN1 HN0
                            -- 228, 231: the slots; bindOpr t: the op; .slice none 0 0: its record's value; w4: the world before; l4 ++ binL a b k: the row; xs: its cells; HO4: the Hid of OpsF
                            -- an op more: bindOpr t: the op; .slice none 0 0: its record's value; w4: the world before it is built; l4 ++ binL a b k: the row of ops; HO4: the Hid of OpsF there
                            have hoa := (HO4).out.o.alloc (.cells (oprCells (bindOpr t) (.slice none 0 0)) 37)
                            have hsb := (HO4).out.b
                            obtain ⟨nl, hnl⟩ : ∃ nl, (l4 ++ binL a b k).length = nl := ⟨_, rfl⟩
                            have hnlb : nl ≤ 100000 := by omega
                            rw [hnl] at hoa
                            have HNL := Lib.hid hnl
                            clear hnl
                            obtain ⟨Ap, cp, hvp, hpc, hpm⟩ := hoa.form
                            subst hvp
                            have HNW : Hid (∀ j u, (oprCells (bindOpr t) (.slice none 0 0)).toList[j]? = some u → ((w4).alloc (.cells (oprCells (bindOpr t) (.slice none 0 0)) 37)).cell? ⟨(w4).heap.size, j, none⟩ = some u) := fun j u hj => by
                              rw [World.cell?_alloc_at _ _ _ _ rfl]; simpa using hj
                            have HOA := Lib.hid hoa
                            have HRA := Lib.hid (HO4).out.r
                            have HSB : Hid (B ≤ ((w4).alloc (.cells (oprCells (bindOpr t) (.slice none 0 0)) 37)).heap.size) := Nat.le_trans hsb (Below.alloc (Below.refl _ _) (Nat.le_refl _) (.cells (oprCells (bindOpr t) (.slice none 0 0)) 37)).size
                            clear hoa
                            go_wp2_with (first
                              | (at_builtin; refine wpList_append_q _ rfl (.tmp 228) (.tmp 231) _ rfl B 37 i0 opr0 11 136 Tryz.underlying38 ei ez ez1 ez2 rfl (by decide) (.slice Ap nl cp) nl (xs) rfl HOA.out (some ⟨(w4).heap.size, 0, none⟩) 1 1 (oprCells (bindOpr t) (.slice none 0 0)).toList rfl rfl (fun _ => ⟨_, rfl, fun j u hj => by rw [addr_add, Nat.zero_add]; exact HNW.out j u hj⟩) (fun u hu => by simp [oprCells] at hu; rcases hu with rfl | rfl | rfl | rfl | rfl | rfl | rfl | rfl | rfl | rfl | rfl <;> rfl) (by unfold maxLen; omega) (by omega) HSB.out ?_; intro v7 w7 hown7 hg7 hat7))
                            -- bindOpr t: the op; .slice none 0 0: its record's value; i64_zero sm_empty prp0_ok HPK.out (Sl.nil 0 (Nat.zero_le _) none): its facts; HOA: the world's HOA or HOD; HSB.out: that B is below; l4 ++ binL a b (k + 1): the list behind; xs: its cells; hB4.alloc HO4.out.b _: Below from W0 to the world ahead of the append
                            have hpush := OpsF.push HNL.out (HOA).out HRA.out (HSB.out) (m := [bindOpr t]) (ys := (oprCells (bindOpr t) (.slice none 0 0)).toList) (RefOps.one i64_zero sm_empty prp0_ok HPK.out (Sl.nil 0 (Nat.zero_le _) none)) hown7 hg7
                            have hB7 : Below B W0 w7 := (hB4.alloc HO4.out.b _).trans hpush.2.1
                            have hsm7 := hpush.2.2
                            have HO7 : Hid (OpsF W0 B w7 v7 (l4 ++ binL a b (k + 1)) ((xs) ++ (oprCells (bindOpr t) (.slice none 0 0)).toList)) := by unfold Hid; rw [HN.out]; first | exact hpush.1 | (rw [← List.append_assoc]; exact hpush.1)
                            clear hpush hg7 hat7 hown7 HOA HRA HNW
                            go_roundw
                            case rel => exact ⟨k + 1, _, by omega, by go_num, hB7, HO7⟩
                            case measure => simp [intOf]; omega
                          | false =>
                            have HN := Lib.hid (HN0.out rfl)
                            clear HN1 HN0
                            go_wp2_with fail
                            go_roundw
                            case rel => exact ⟨k + 1, xs, by omega, by go_num, hB4, by rw [HN.out]; exact HO4⟩
                            case measure => simp [intOf]; omega
                    · obtain rfl : k = b.ties.length := by omega
                      have HX : Hid (Below w.heap.size w wr) := hb0.trans (hbr'.mono hw0)
                      have HS : Hid (Sl oprL wr u5 (diffL a b)) := by unfold Hid; rw [HE4.out]; exact HO.out.sl hbr'
                      clear hbr'
                      go_wp2_with fail
                      go_ret
                      exact ⟨_, rfl, HS.out, HX.out⟩
end Go.Proofs.YtngbbefpphinjaaGreatDoor
