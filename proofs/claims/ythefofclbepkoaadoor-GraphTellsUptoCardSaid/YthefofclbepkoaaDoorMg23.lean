/- Parts: RfH, GTells. -/
import Derived.Test.YthefofclbepkoaaDoorMg22
import Derived.Test.YthefofclbepkoaaDoorMg20
import Derived.Test.YthefofclbepkoaaDoorMg19
import Derived.Deep.DeepCutAuto
/- Contract of the references: kinref1.Graph: what is wrong with a graph. No condition. -/
namespace Go.Proofs.YthefofclbepkoaaDoor
open Go Go.RowKit


set_option maxRecDepth 100000 in
set_option maxHeartbeats 8000000 in
theorem rgraph_any (g : Grf) (vn vt : Value) (w : World) (hg : GrfR w vn vt g) :
    Calls Tryd.prog 18 #[.agg #[vn, vt]] w fun e w' => e = .returned (.int .i64 (grfE g)) ∧ Below w.heap.size w w' := by
  obtain ⟨hn, ht⟩ := hg
  obtain ⟨A, c, rfl, hlc, hcm⟩ := hn.form
  obtain ⟨A', c', rfl, hlc', hcm'⟩ := ht.form
  unfold maxLen at hcm hcm'
  have HF : Hid (grfE g = if 60 < g.nodes.length ∨ 120 < g.ties.length then 4 else if nodsE none g.nodes = 0 then tiesE none g.ties else nodsE none g.nodes) := rfl
  obtain ⟨q0, q1⟩ := cell_box2 w (.slice A g.nodes.length c) (.slice A' g.ties.length c') 47
  have hb0 : Below w.heap.size w (w.alloc (.cells #[.slice A g.nodes.length c, .slice A' g.ties.length c'] 47)) := (Below.refl _ _).alloc (Nat.le_refl _) _
  by_cases h1 : 60 < g.nodes.length
  · have HE : Hid (grfE g = 4) := by unfold Hid; rw [HF.out, if_pos (Or.inl h1)]
    have h1' : (60 : Int) < (g.nodes.length : Int) := by omega
    clear hn ht
    go_enter Tryd.func18, Tryd.ntmps18
    go_wp2_with fail
    go_ret
    exact ⟨by rw [HE.out]; rfl, hb0⟩
  have h1' : decide ((60 : Int) < (g.nodes.length : Int)) = false := by simp; omega
  have h1'' : (g.nodes.length : Int) ≤ 60 := by omega
  by_cases h2 : 120 < g.ties.length
  · have HE : Hid (grfE g = 4) := by unfold Hid; rw [HF.out, if_pos (Or.inr h2)]
    have h2' : (120 : Int) < (g.ties.length : Int) := by omega
    clear hn ht
    go_enter Tryd.func18, Tryd.ntmps18
    go_wp2_with fail
    go_ret
    exact ⟨by rw [HE.out]; rfl, hb0⟩
  have h2' : decide ((120 : Int) < (g.ties.length : Int)) = false := by simp; omega
  have h2'' : (g.ties.length : Int) ≤ 120 := by omega
  have HG : Hid (grfE g = if nodsE none g.nodes = 0 then tiesE none g.ties else nodsE none g.nodes) := by unfold Hid; rw [HF.out, if_neg (by omega)]
  have HN0 := Lib.hid (hn.below hb0)
  have HT0 := Lib.hid (ht.below hb0)
  clear HF hn ht h1 h2
  have hw0 : w.heap.size < (w.alloc (.cells #[.slice A g.nodes.length c, .slice A' g.ties.length c'] 47)).heap.size := by simp
  go_enter Tryd.func18, Tryd.ntmps18
  go_wp2_with fail
  generalize hW : w.alloc (.cells #[.slice A g.nodes.length c, .slice A' g.ties.length c'] 47) = W at *
  clear hW
  go_loopw [3] (fun i wr => ∃ k : Nat, k ≤ g.nodes.length ∧ i = .int .i64 k ∧ Below W.heap.size W wr ∧ Hid (nodsE none g.nodes = nodsE (prev g.nodes k) (g.nodes.drop k))) (fun i _ => g.nodes.length - (intOf i).toNat)
  case atStart => exact ⟨0, Nat.zero_le _, rfl, Below.refl _ _, rfl⟩
  case round =>
    obtain ⟨k, hk, rfl, hb, HA⟩ := hrel
    have r0 : wr.cell? ⟨w.heap.size, 0, none⟩ = some (.slice A g.nodes.length c) := cell_below hb q0
    have r1 : wr.cell? ⟨w.heap.size, 1, none⟩ = some (.slice A' g.ties.length c') := cell_below hb q1
    by_cases hlt : k < g.nodes.length
    · obtain ⟨d, hd⟩ : ∃ d, g.nodes[k]? = some d := ⟨_, List.getElem?_eq_getElem hlt⟩
      obtain ⟨b, o, rfl, hall⟩ := nod_all (HN0.out.below hb) (by omega)
      obtain ⟨u, hid, hkd, hpr, x0, x1, x2⟩ := hall _ _ hd
      obtain ⟨Ar, cr, rfl, _, _⟩ := hpr.form
      have HS : Hid (nodsE none g.nodes = nodsE (prev g.nodes k) (d :: g.nodes.drop (k + 1))) := by rw [HA.out, drop_cons hd]; rfl
      have hlt' : (k : Int) < (g.nodes.length : Int) := by omega
      have hidc := rid_any d.id wr
      have HND : Hid (∀ W', Below wr.heap.size wr W' → Calls Tryd.prog 58 #[.agg #[.int .i64 d.id, .string d.kind, .slice Ar d.props.length cr]] W' fun e w' => e = .returned (.int .i64 (nodE d)) ∧ Below W'.heap.size W' w') := fun W' h => rnode_any d _ W' hkd (hpr.below h)
      have HP : Hid (prev g.nodes (k + 1) = some d) := hd
      clear HA hpr hid hkd
      cases h3 : idB d.id with
      | false =>
        have HE : Hid (grfE g = 1) := by
          have : nodsE none g.nodes = 1 := by rw [HS.out]; simp only [nodsE, h3, if_true]
          unfold Hid; rw [HG.out, if_neg (by rw [this]; decide), this]
        rw [h3] at hidc
        clear hall hd HS HG HND
        go_wp2_with fail
        refine hidc.mono ?_
        clear hidc
        rintro e w1 ⟨rfl, rfl⟩
        go_wp2_with fail
        go_ret
        exact ⟨by rw [HE.out]; rfl, hb0.trans (hb.mono hb0.size)⟩
      | true =>
        rw [h3] at hidc
        rcases Nat.eq_zero_or_pos k with hk0 | hk0
        · have hkd0 : decide ((0 : Int) < (k : Int)) = false := by simp; omega
          have hkd1 : (k : Int) ≤ 0 := by omega
          have hkd2 : decide (0 < k) = false := by simp; omega
          have HS' : Hid (nodsE none g.nodes = if nodE d = 0 then nodsE (some d) (g.nodes.drop (k + 1)) else nodE d) := by
            rw [HS.out, hk0]; simp only [nodsE, prev, h3, Bool.true_eq_false, if_false]; rfl
          have HGO : Hid (nodE d = 0 → nodsE none g.nodes = nodsE (prev g.nodes (k + 1)) (g.nodes.drop (k + 1))) := fun h => by rw [HS'.out, if_pos h, HP.out]
          have HST : Hid (nodE d ≠ 0 → grfE g = nodE d) := fun h => by
            have : nodsE none g.nodes = nodE d := by rw [HS'.out, if_neg h]
            rw [HG.out, if_neg (by rw [this]; exact h), this]
          clear hall hd hk0 HS HS'
          generalize nodE d = z at *
          go_wp2_with fail
          refine hidc.mono ?_
          clear hidc
          rintro e w1 ⟨rfl, rfl⟩
          go_wp2_with fail
          go_quiet (fail)
          have hnode := HND.out (wr.drewN nq) (below_drewN (Below.refl _ _) nq)
          have hbq := below_drewN hb nq
          clear HND
          go_wp2_with fail
          -- behind region 9: the node by itself
          refine hnode.mono ?_
          clear hnode
          rintro e w1 ⟨rfl, hb1⟩
          have hb2 := hbq.trans (hb1.mono hbq.size)
          by_cases hz : z = 0
          · have HT := Lib.hid (HGO.out hz)
            subst hz
            clear HGO HST
            go_wp2_with fail
            go_roundw
            case rel => exact ⟨k + 1, by omega, by go_num, hb2, HT⟩
            case measure => simp [intOf]; omega
          · have HE : Hid (grfE g = z) := HST.out hz
            have hzb : (z != 0) = true := by simpa using hz
            clear HGO HST hz
            go_wp2_with fail
            go_ret
            exact ⟨by rw [HE.out]; rfl, hb0.trans (hb2.mono hb0.size)⟩
        · obtain ⟨p, hp⟩ : ∃ p, g.nodes[k - 1]? = some p := ⟨_, List.getElem?_eq_getElem (by omega)⟩
          obtain ⟨u', hid', _, _, y0, _, _⟩ := hall _ _ hp
          have hkd0 : (0 : Int) < (k : Int) := by omega
          have hkd1 : decide ((0 : Int) < (k : Int)) = true := by simp; omega
          have hkd2 : decide (0 < k) = true := by simp; omega
          have hpv : prev g.nodes k = some p := by
            obtain ⟨m, rfl⟩ : ∃ m, k = m + 1 := ⟨k - 1, by omega⟩
            exact hp
          by_cases h5 : d.id ≤ p.id
          · have h5' : decide (d.id ≤ p.id) = true := by simpa using h5
            have HE : Hid (grfE g = 7) := by
              have : nodsE none g.nodes = 7 := by rw [HS.out, hpv]; simp only [nodsE, h3, h5', Bool.true_eq_false, if_false, if_true]
              unfold Hid; rw [HG.out, if_neg (by rw [this]; decide), this]
            clear hall hd hp HS hpv HND HG
            go_wp2_with fail
            refine hidc.mono ?_
            clear hidc
            rintro e w1 ⟨rfl, rfl⟩
            go_wp2_with fail
            go_quiet (fail)
            go_wp2_with fail
            go_ret
            exact ⟨by rw [HE.out]; rfl, hb0.trans ((below_drewN hb _).mono hb0.size)⟩
          · have h5' : decide (d.id ≤ p.id) = false := by simpa using h5
            have h5'' : p.id < d.id := by omega
            have HS' : Hid (nodsE none g.nodes = if nodE d = 0 then nodsE (some d) (g.nodes.drop (k + 1)) else nodE d) := by
              unfold Hid; rw [HS.out, hpv]; simp only [nodsE, h3, h5', Bool.true_eq_false, if_false, Bool.false_eq_true]
            have HGO : Hid (nodE d = 0 → nodsE none g.nodes = nodsE (prev g.nodes (k + 1)) (g.nodes.drop (k + 1))) := fun h => by rw [HS'.out, if_pos h, HP.out]
            have HST : Hid (nodE d ≠ 0 → grfE g = nodE d) := fun h => by
              have : nodsE none g.nodes = nodE d := by rw [HS'.out, if_neg h]
              rw [HG.out, if_neg (by rw [this]; exact h), this]
            clear hall hd hp HS hpv h5 HS'
            generalize nodE d = z at *
            go_wp2_with fail
            refine hidc.mono ?_
            clear hidc
            rintro e w1 ⟨rfl, rfl⟩
            go_wp2_with fail
            go_quiet (fail)
            have hnode := HND.out (wr.drewN nq) (below_drewN (Below.refl _ _) nq)
            have hbq := below_drewN hb nq
            clear HND
            go_wp2_with fail
            -- behind region 9: the node by itself
            refine hnode.mono ?_
            clear hnode
            rintro e w1 ⟨rfl, hb1⟩
            have hb2 := hbq.trans (hb1.mono hbq.size)
            by_cases hz : z = 0
            · have HT := Lib.hid (HGO.out hz)
              subst hz
              clear HGO HST
              go_wp2_with fail
              go_roundw
              case rel => exact ⟨k + 1, by omega, by go_num, hb2, HT⟩
              case measure => simp [intOf]; omega
            · have HE : Hid (grfE g = z) := HST.out hz
              have hzb : (z != 0) = true := by simpa using hz
              clear HGO HST hz
              go_wp2_with fail
              go_ret
              exact ⟨by rw [HE.out]; rfl, hb0.trans (hb2.mono hb0.size)⟩
    · have hkl : k = g.nodes.length := by omega
      subst hkl
      have HT : Hid (grfE g = tiesE none g.ties) := by
        have : nodsE none g.nodes = 0 := by rw [HA.out, List.drop_length]; rfl
        unfold Hid; rw [HG.out, if_pos this]
      clear HG HA HN0
      obtain ⟨wo, rfl⟩ : ∃ wo : World, wo = wr := ⟨_, rfl⟩
      go_wp2_with fail
      go_loopw [6] (fun i wr => ∃ k : Nat, k ≤ g.ties.length ∧ i = .int .i64 k ∧ Below W.heap.size W wr ∧ Hid (tiesE none g.ties = tiesE (prev g.ties k) (g.ties.drop k))) (fun i _ => g.ties.length - (intOf i).toNat)
      case atStart => exact ⟨0, Nat.zero_le _, rfl, hb, rfl⟩
      case round =>
        clear r0 r1
        obtain ⟨k, hk, rfl, hc, HA⟩ := hrel
        have r1 : wr.cell? ⟨w.heap.size, 1, none⟩ = some (.slice A' g.ties.length c') := cell_below hc q1
        by_cases hlt : k < g.ties.length
        · obtain ⟨d, hd⟩ : ∃ d, g.ties[k]? = some d := ⟨_, List.getElem?_eq_getElem hlt⟩
          obtain ⟨b, o, rfl, hall⟩ := tie_all (HT0.out.below hc) (by omega)
          obtain ⟨hok, x0, x1, x2⟩ := hall _ _ hd
          have HS : Hid (tiesE none g.ties = tiesE (prev g.ties k) (d :: g.ties.drop (k + 1))) := by rw [HA.out, drop_cons hd]; rfl
          have HP : Hid (prev g.ties (k + 1) = some d) := hd
          have htie := rtie_any d wr hok.1
          have hlt' : (k : Int) < (g.ties.length : Int) := by omega
          clear HA
          by_cases h4 : tieE d = 0
          case neg =>
            have HE : Hid (grfE g = tieE d) := by
              have : tiesE none g.ties = tieE d := by rw [HS.out]; simp only [tiesE, h4, if_false]
              unfold Hid; rw [HT.out, this]
            clear hall hd HS
            generalize tieE d = z at *
            have hzb : (z != 0) = true := by simpa using h4
            clear h4
            go_wp2_with fail
            refine htie.mono ?_
            clear htie
            rintro e w1 ⟨rfl, hb1⟩
            go_wp2_with fail
            go_ret
            exact ⟨by rw [HE.out]; rfl, hb0.trans ((hc.trans (hb1.mono hc.size)).mono hb0.size)⟩
          rw [h4] at htie
          rcases Nat.eq_zero_or_pos k with hk0 | hk0
          · have hkd0 : ((k : Int) == 0) = true := by simp; omega
            have hkd2 : (k == 0) = true := by simp; omega
            have hkd1 : (k : Int) ≤ 0 := by omega
            have HT' : Hid (tiesE none g.ties = tiesE (prev g.ties (k + 1)) (g.ties.drop (k + 1))) := by
              unfold Hid; rw [HS.out, HP.out, hk0]; simp [tiesE, prev, h4]
            have hkd3 : decide (k = 0) = true := by simp; omega
            clear hall hd hk0 HS h4 HP
            go_wp2_with fail
            refine htie.mono ?_
            clear htie
            rintro e w1 ⟨rfl, hb1⟩
            have hb2 := hc.trans (hb1.mono hc.size)
            go_wp2_with fail
            go_quiet (fail)
            go_wp2_with fail
            go_roundw
            case rel => exact ⟨k + 1, by omega, by go_num, below_drewN hb2 _, HT'⟩
            case measure => simp [intOf]; omega
          · obtain ⟨p, hp⟩ : ∃ p, g.ties[k - 1]? = some p := ⟨_, List.getElem?_eq_getElem (by omega)⟩
            obtain ⟨hok', y0, y1, y2⟩ := hall _ _ hp
            have hkd0 : ((k : Int) == 0) = false := by simp; omega
            have hkd3 : (0 : Int) < (k : Int) := by omega
            have hkd4 : ¬ k = 0 := by omega
            have hpv : prev g.ties k = some p := by
              obtain ⟨m, rfl⟩ : ∃ m, k = m + 1 := ⟨k - 1, by omega⟩
              exact hp
            have hord := fun (x : World) => rless_any p d x
            have HNO : Hid (decide (tieO p d < 0) = false → grfE g = 7) := fun h => by
              have h5' : decide (0 ≤ tieO p d) = true := decide_eq_true (by have := of_decide_eq_false h; omega)
              have : tiesE none g.ties = 7 := by rw [HS.out, hpv]; simp only [tiesE, h4, h5', if_true]
              rw [HT.out, this]
            have HYES : Hid (decide (tieO p d < 0) = true → tiesE none g.ties = tiesE (prev g.ties (k + 1)) (g.ties.drop (k + 1))) := fun h => by
              have h5' : decide (0 ≤ tieO p d) = false := decide_eq_false (by have := of_decide_eq_true h; omega)
              rw [HS.out, HP.out, hpv]; simp only [tiesE, h4, h5', if_true, Bool.false_eq_true, if_false]
            clear hall hd hp HS hpv h4 HP hok hok'
            generalize decide (tieO p d < 0) = q at *
            go_wp2_with fail
            refine htie.mono ?_
            clear htie
            rintro e w1 ⟨rfl, hb1⟩
            have hb2 := hc.trans (hb1.mono hc.size)
            have r1 := cell_below hb1 r1
            have x0 := cell_below hb1 x0
            have x1 := cell_below hb1 x1
            have x2 := cell_below hb1 x2
            have y0 := cell_below hb1 y0
            have y1 := cell_below hb1 y1
            have y2 := cell_below hb1 y2
            go_wp2_with fail
            refine wp_mid_g 14 _ rfl rfl (by kernel_rfl) ?_
            simp only [List.take_succ_cons, List.take_zero, List.drop_succ_cons, List.drop_zero]
            repeat (go_big_quiet_step (fail))
            refine wpQuiet_nil ?_
            refine ⟨by simp [Region.wanted, yielded, go_sem], ?_⟩
            intro _ hw'
            obtain ⟨nq, hw''⟩ := hw'
            subst hw''
            intro K hK
            have hk1 := hord (w1.drewN nq)
            clear hord
            go_wp2_with fail
            refine hk1.mono ?_
            clear hk1
            rintro e w2 ⟨rfl, hb3⟩
            have hb12 := (below_drewN (Below.refl w1.heap.size w1) nq).trans hb3
            refine hK _ _ ?_
            repeat (go_big_quiet_step (fail))
            refine wpQuiet_nil ?_
            intro _ hw'
            obtain ⟨nq2, hw''⟩ := hw'
            subst hw''
            clear hK
            have hbX := below_drewN hb12 nq2
            generalize w2.drewN nq2 = w3 at *
            have hb4 := hb2.trans (hbX.mono hb2.size)
            clear hb3 hb12 hbX r1 x0 x1 x2 y0 y1 y2
            cases q with
            | false =>
              have HE : Hid (grfE g = 7) := HNO.out rfl
              clear HNO HYES
              go_wp2_with fail
              go_ret
              exact ⟨by rw [HE.out]; rfl, hb0.trans (hb4.mono hb0.size)⟩
            | true =>
              have HT' := Lib.hid (HYES.out rfl)
              clear HNO HYES
              go_wp2_with fail
              go_roundw
              case rel => exact ⟨k + 1, by omega, by go_num, hb4, HT'⟩
              case measure => simp [intOf]; omega
        · have hkl : k = g.ties.length := by omega
          subst hkl
          have HE : Hid (grfE g = 0) := by
            have : tiesE none g.ties = 0 := by rw [HA.out, List.drop_length]; rfl
            unfold Hid; rw [HT.out, this]
          clear HA HT
          go_wp2_with fail
          go_ret
          exact ⟨by rw [HE.out]; rfl, hb0.trans (hc.mono hb0.size)⟩
end Go.Proofs.YthefofclbepkoaaDoor

/- Contract: the law GraphTells answers true. -/
namespace Go.Proofs.YthefofclbepkoaaDoor
open Go Go.RowKit

/-- The node that is wanted, in its box; the ends that are wanted. -/
def WantR (w2 : World) (b : Nat) (N : Nod) (E0 E1 : List Int) (vo vi : Value) (wx : World) : Prop :=
  (∃ u, wx.heap[b]? = some (.cells #[.int .i64 N.id, .string N.kind, u] 56 (0, 0)) ∧ Sl prpL wx u N.props) ∧ Sl intL wx vo E0 ∧ Sl intL wx vi E1 ∧ Below w2.heap.size w2 wx
theorem WantR.below {w2 : World} {b : Nat} {N : Nod} {E0 E1 : List Int} {vo vi : Value} {wx wy : World} (h : WantR w2 b N E0 E1 vo vi wx) (hb : Below wx.heap.size wx wy) : WantR w2 b N E0 E1 vo vi wy := by
  obtain ⟨⟨u, h1, h2⟩, h3, h4, h5⟩ := h
  exact ⟨⟨u, (hb.block _ (Array.getElem?_eq_some_iff.1 h1).1).trans h1, h2.below hb⟩, h3.below hb, h4.below hb, h5.trans (hb.mono h5.size)⟩
set_option maxRecDepth 100000 in
set_option maxHeartbeats 16000000 in
theorem graphTells_any (g o : Grf) (id : Int) (bond : ByteArray) (k1 b1 k2 b2 : Value) (w : World) (hg : GlobOk w) (h1 : GrfR w k1 b1 g) (h2 : GrfR w k2 b2 o) (hid : I64 id) (hbd : Sm bond) :
    Calls Tryd.prog 6 #[.agg #[k1, b1], .agg #[k2, b2], .int .i64 id, .string bond] w fun e w' => e = .returned (.bool true) ∧ Below w.heap.size w w' := by
  obtain ⟨A1, c1, rfl, _, _⟩ := h1.1.form
  obtain ⟨A2, c2, rfl, _, _⟩ := h1.2.form
  obtain ⟨A3, c3, rfl, _, _⟩ := h2.1.form
  obtain ⟨A4, c4, rfl, _, _⟩ := h2.2.form
  obtain ⟨w0, hw0⟩ : ∃ w0, w0 = (w.alloc (.cells #[.slice A1 g.nodes.length c1, .slice A2 g.ties.length c2] 47)).alloc (.cells #[.slice A3 o.nodes.length c3, .slice A4 o.ties.length c4] 47) := ⟨_, rfl⟩
  have hb0 : Below w.heap.size w w0 := by rw [hw0]; exact ((Below.refl _ _).alloc (Nat.le_refl _) _).alloc (by simp) _
  have g0 : w0.heap[w.heap.size]? = some (.cells #[.slice A1 g.nodes.length c1, .slice A2 g.ties.length c2] 47 (0, 0)) := by
    rw [hw0, Below.heap_alloc _ _ _ (by simp)]; exact heap_alloc_new _ _
  have g1 : w0.heap[w.heap.size + 1]? = some (.cells #[.slice A3 o.nodes.length c3, .slice A4 o.ties.length c4] 47 (0, 0)) := by
    have := heap_alloc_new (w.alloc (.cells #[.slice A1 g.nodes.length c1, .slice A2 g.ties.length c2] 47)) (.cells #[.slice A3 o.nodes.length c3, .slice A4 o.ties.length c4] 47); rw [hw0]; simpa using this
  have hw0' := hw0.symm
  have X0 := Lib.hid (block_cell g0 0)
  have X1 := Lib.hid (block_cell g0 1)
  have Y0 := Lib.hid (block_cell g1 0)
  have Y1 := Lib.hid (block_cell g1 1)
  have H1 := Lib.hid (h1.below hb0)
  have H2 := Lib.hid (h2.below hb0)
  have hrg := rgraph_any g _ _ w0 H1.out
  have HCK : Hid (∀ W, Below w0.heap.size w0 W → Calls Tryd.prog 17 #[.agg #[.slice A1 g.nodes.length c1, .slice A2 g.ties.length c2]] W fun e w' => e = .returned (errV (grfE g)) ∧ Below W.heap.size W w') := fun W h => grfCheck_any g _ _ W (H1.out.below h)
  have HRO : Hid (∀ W, Below w0.heap.size w0 W → Calls Tryd.prog 18 #[.agg #[.slice A3 o.nodes.length c3, .slice A4 o.ties.length c4]] W fun e w' => e = .returned (.int .i64 (grfE o)) ∧ Below W.heap.size W w') := fun W h => rgraph_any o _ _ W (H2.out.below h)
  have HFD : Hid (∀ W, Below w0.heap.size w0 W → Calls Tryd.prog 19 #[.agg #[.slice A1 g.nodes.length c1, .slice A2 g.ties.length c2], .int .i64 id] W fun e w' => e = .returned (.int .i64 (rfI g.nodes id)) ∧ Below W.heap.size W w') := fun W h => rgfind_any g _ _ id W (H1.out.below h)
  have HEN : Hid (∀ (back : Bool) W, g.ties.length ≤ 900 → Below w0.heap.size w0 W → Calls Tryd.prog 20 #[.agg #[.slice A1 g.nodes.length c1, .slice A2 g.ties.length c2], .int .i64 id, .string bond, .bool back] W fun e w' => ∃ u, e = .returned u ∧ Sl intL w' u (endsS g id bond back) ∧ Below W.heap.size W w') := fun back W hl h => rends_any g id bond back _ _ W (H1.out.below h) hl
  have HND : Hid (∀ W, Below w0.heap.size w0 W → Calls Tryd.prog 21 #[.agg #[.slice A1 g.nodes.length c1, .slice A2 g.ties.length c2], .int .i64 id] W (RetN (nodeR g id) (nodeE g id) W)) := fun W h => gnode_any g id _ _ W (H1.out.below h)
  have HOU : Hid (∀ W, Below w0.heap.size w0 W → Calls Tryd.prog 23 #[.agg #[.slice A1 g.nodes.length c1, .slice A2 g.ties.length c2], .int .i64 id, .string bond] W (RetE (endsR g id bond false) (nodeE g id) W)) := fun W h => gout_any g id bond _ _ W (H1.out.below h)
  have HIN : Hid (∀ W, Below w0.heap.size w0 W → Calls Tryd.prog 25 #[.agg #[.slice A1 g.nodes.length c1, .slice A2 g.ties.length c2], .int .i64 id, .string bond] W (RetE (endsR g id bond true) (nodeE g id) W)) := fun W h => gin_any g id bond _ _ W (H1.out.below h)
  have HNX : Hid (∀ W, Below w0.heap.size w0 W → Calls Tryd.prog 26 #[.agg #[.slice A1 g.nodes.length c1, .slice A2 g.ties.length c2]] W fun e w' => e = .returned (.tuple #[.int .i64 (nextN g), errV (nextE g)]) ∧ Below W.heap.size W w') := fun W h => next_any g _ _ W (H1.out.below h)
  have HSM : Hid (∀ W, Below w0.heap.size w0 W → Calls Tryd.prog 27 #[.agg #[.slice A1 g.nodes.length c1, .slice A2 g.ties.length c2], .agg #[.slice A3 o.nodes.length c3, .slice A4 o.ties.length c4]] W fun e w' => e = .returned (.tuple #[.bool (sameGR g o), errV (sameGE g o)]) ∧ Below W.heap.size W w') := fun W h => gsame_any g o _ _ _ _ W (H1.out.below h) (H2.out.below h)
  have HSG : Hid (∀ W, Below w0.heap.size w0 W → Calls Tryd.prog 28 #[.agg #[.slice A1 g.nodes.length c1, .slice A2 g.ties.length c2], .agg #[.slice A3 o.nodes.length c3, .slice A4 o.ties.length c4]] W fun e w' => e = .returned (.bool (decide (g = o))) ∧ Below W.heap.size W w') := fun W h => sgraph_any g o _ _ _ _ W (H1.out.below h) (H2.out.below h)
  -- what is known of the numbers
  have PBAD : Hid (grfE g ≠ 0 → nodeE g id = grfE g) := node_bad
  have PNEG : Hid (grfE g = 0 → rfI g.nodes id < 0 → nodeE g id = 5) := rf_neg
  have PPOS : Hid (grfE g = 0 → 0 ≤ rfI g.nodes id → ∃ (i : Nat) (n : Nod), rfI g.nodes id = i ∧ g.nodes[i]? = some n ∧ nodeE g id = 0 ∧ nodeR g id = n) := rf_pos
  have PNR : Hid (nodeE g id ≠ 0 → nodeR g id = zeroN) := nodeR_bad
  have PER : Hid (nodeE g id ≠ 0 → endsR g id bond false = [] ∧ endsR g id bond true = []) := fun h => ⟨endsR_bad h bond false, endsR_bad h bond true⟩
  have PEO : Hid (nodeE g id = 0 → endsR g id bond false = endsS g id bond false ∧ endsR g id bond true = endsS g id bond true) := fun h => ⟨endsR_ok h bond false, endsR_ok h bond true⟩
  have PTL : Hid (grfE g = 0 → g.ties.length ≤ 900 ∧ g.nodes.length ≤ 60) := fun h => ⟨by have := (grf_ok h).2.1; omega, (grf_ok h).1⟩
  have PXB : Hid (grfE g ≠ 0 → nextE g = grfE g ∧ nextN g = 0) := next_bad
  have PXF : Hid (grfE g = 0 → 1000 < nextI g.nodes → nextE g = 4 ∧ nextN g = 0) := next_full
  have PXO : Hid (grfE g = 0 → nextI g.nodes ≤ 1000 → nextE g = 0 ∧ nextN g = nextI g.nodes) := next_ok
  have PXI : Hid (∀ d, g.nodes[g.nodes.length - 1]? = some d → nextI g.nodes = d.id + 1) := fun d hd => by unfold nextI; rw [hd]
  have PX0 : Hid (g.nodes.length = 0 → nextI g.nodes = 1) := fun h => by unfold nextI; rw [List.eq_nil_of_length_eq_zero h]; rfl
  have PIB : Hid (grfE g = 0 → ∀ n ∈ g.nodes, 1 ≤ n.id ∧ n.id ≤ 1000) := fun h n hn => by
    have := ((grf_ok h).2.2.2 n hn).1
    unfold idB at this
    simpa using this
  have PSE : Hid (sameGE g o = if grfE g = 0 then grfE o else grfE g) := rfl
  have PSR : Hid (sameGR g o = if sameGE g o = 0 then decide (g = o) else false) := rfl
  generalize grfE g = z at *
  generalize grfE o = zo at *
  generalize rfI g.nodes id = ri at *
  generalize nodeE g id = ne at *
  generalize nodeR g id = NR at *
  generalize endsR g id bond false = E0 at *
  generalize endsR g id bond true = E1 at *
  generalize nextE g = xe at *
  generalize nextN g = xn at *
  generalize nextI g.nodes = xi at *
  generalize sameGE g o = se at *
  generalize sameGR g o = sr at *
  generalize decide (g = o) = gq at *
  have x0 := X0.out
  have x1 := X1.out
  clear h1 h2 g0 g1 hw0
  go_enter Tryd.func6, Tryd.ntmps6
  go_wp2_with fail
  clear hw0'
  refine hrg.mono ?_
  clear hrg
  rintro e w1 ⟨rfl, hb1⟩
  have x0 := cell_below hb1 X0.out
  have x1 := cell_below hb1 X1.out
  have hx := HCK.out w1 hb1
  go_wp2_with fail
  refine hx.mono ?_
  clear hx x0 x1 HCK
  rintro e w1b ⟨rfl, hb1b⟩
  have hb1c := hb1.trans (hb1b.mono hb1.size)
  -- the error is the one told: z: the number; w1b: the world; hb1c: it is above w0; w2: the world then; hb2: its fact's name
  have hx := same_any z z w1b (hg.below (hb0.trans ((hb1c).mono hb0.size)))
  rw [beq_self_eq_true] at hx
  go_wp2_with fail
  refine hx.mono ?_
  clear hx
  rintro e w2 ⟨rfl, hb2⟩
  have hb2 := hb1c.trans (hb2.mono hb1c.size)
  clear hb1 hb1b hb1c
  go_upto_region 5 with fail
  have hbz : Below w2.heap.size w2 (w2.alloc (.cells #[.int .i64 0, .string ⟨#[]⟩, .slice none 0 0] 56)) := (Below.refl _ _).alloc (Nat.le_refl _) _
  have hgz := heap_alloc_new w2 (.cells #[.int .i64 0, .string ⟨#[]⟩, .slice none 0 0] 56)
  generalize w2.alloc (.cells #[.int .i64 0, .string ⟨#[]⟩, .slice none 0 0] 56) = w3 at *
  have hB3 := hb2.trans (hbz.mono hb2.size)
  have hw2s := hb2.size
  have x0 := cell_below hB3 X0.out
  have x1 := cell_below hB3 X1.out
  go_upto_if 40 with fail
  go_cut [11, 13, 14] (fun f vo vi wx => f = .int .i64 ne ∧ WantR w2 w2.heap.size NR E0 E1 vo vi wx)
  case first =>
    by_cases hz : z = 0
    case neg =>
      have hzb : (z == 0) = false := by simpa using hz
      have hne := PBAD.out hz
      have hnz : ne ≠ 0 := by rw [hne]; exact hz
      have HN := Lib.hid hne
      have HR0 := Lib.hid (PNR.out hnz)
      have HE0 := Lib.hid (PER.out hnz)
      clear hne hnz hz x0 x1 PBAD PNEG PPOS
      go_wp2_with fail
      go_meet
      exact ⟨by rw [HN.out], ⟨_, by rw [HR0.out]; exact hgz, by rw [HR0.out]; exact Sl.nil 0 (Nat.zero_le _) none⟩, by rw [HE0.out.1]; exact Sl.nil 0 (Nat.zero_le _) none, by rw [HE0.out.2]; exact Sl.nil 0 (Nat.zero_le _) none, hbz⟩
    have hzb : (z == 0) = true := by simpa using hz
    have hx := HFD.out w3 hB3
    obtain ⟨htl, hnl⟩ := PTL.out hz
    have hnl' : (g.nodes.length : Int) ≤ 60 := by omega
    go_wp2_with fail
    refine hx.mono ?_
    clear hx x0 x1 HFD
    rintro e w4 ⟨rfl, hb4⟩
    have hgz4 := (hb4.block _ (Array.getElem?_eq_some_iff.1 hgz).1).trans hgz
    have hb24 := hbz.trans (hb4.mono hbz.size)
    by_cases hr : ri < 0
    · have hrd : decide (ri < 0) = true := decide_eq_true hr
      have hne := PNEG.out hz hr
      have hnz : ne ≠ 0 := by rw [hne]; omega
      have HN := Lib.hid hne
      have HR0 := Lib.hid (PNR.out hnz)
      have HE0 := Lib.hid (PER.out hnz)
      clear hne hnz hz hr PBAD PNEG PPOS
      go_wp2_with fail
      go_meet
      exact ⟨by rw [HN.out], ⟨_, by rw [HR0.out]; exact hgz4, by rw [HR0.out]; exact Sl.nil 0 (Nat.zero_le _) none⟩, by rw [HE0.out.1]; exact Sl.nil 0 (Nat.zero_le _) none, by rw [HE0.out.2]; exact Sl.nil 0 (Nat.zero_le _) none, hb24⟩
    obtain ⟨i, n, rfl, hn, hne, hNR⟩ := PPOS.out hz (by omega)
    have hrd : decide ((i : Int) < 0) = false := decide_eq_false (by omega)
    have hil := (List.getElem?_eq_some_iff.1 hn).1
    have hil' : (i : Int) < (g.nodes.length : Int) := by omega
    have hi0 : (0 : Int) ≤ (i : Int) := by omega
    have HN := Lib.hid (show z = ne by rw [hz, hne])
    have HR0 := Lib.hid hNR
    have HE0 := Lib.hid (PEO.out hne)
    have hb04 := hB3.trans (hb4.mono hB3.size)
    obtain ⟨gb, oo, rfl, un, _, _, hun, q0, q1, q2⟩ := nod_at H1.out.1 hn
    obtain ⟨An, cn, rfl, _, _⟩ := hun.form
    have q0 := cell_below hb04 q0
    have q1 := cell_below hb04 q1
    have q2 := cell_below hb04 q2
    have x0 := cell_below hb04 X0.out
    have m0 := block_cell hgz4 0
    have m1 := block_cell hgz4 1
    have m2 := block_cell hgz4 2
    have f0 := block_free hgz4 0
    have f1 := block_free hgz4 1
    have f2 := block_free hgz4 2
    have HUN := Lib.hid hun
    clear hne hNR hn hz hr hun PBAD PNEG PPOS
    go_upto_region 11 with fail
    have s1 := setCell_block hgz4 0 (.int .i64 n.id)
    have s2 := setCell_block s1 1 (.string n.kind)
    have s3 := setCell_block s2 2 (.slice An n.props.length cn)
    have hb25 := ((hb24.setCell (p := ⟨w2.heap.size, 0, none⟩) (Nat.le_refl _) (.int .i64 n.id)).setCell (p := ⟨w2.heap.size, 1, none⟩) (Nat.le_refl _) (.string n.kind)).setCell (p := ⟨w2.heap.size, 2, none⟩) (Nat.le_refl _) (.slice An n.props.length cn)
    clear m0 m1 m2 f0 f1 f2 x0 q0 q1 q2 s1 s2 hgz4 hb24 hb4 hb04
    generalize ((w4.setCell ⟨w2.heap.size, 0, none⟩ (.int .i64 n.id)).setCell ⟨w2.heap.size, 1, none⟩ (.string n.kind)).setCell ⟨w2.heap.size, 2, none⟩ (.slice An n.props.length cn) = w5 at *
    have s3' : w5.heap[w2.heap.size]? = some (.cells #[.int .i64 n.id, .string n.kind, .slice An n.props.length cn] 56 (0, 0)) := s3
    have hb05 := hb2.trans (hb25.mono hb2.size)
    have HUN := Lib.hid (HUN.out.below hb05)
    have x0 := cell_below hb05 X0.out
    have x1 := cell_below hb05 X1.out
    have hx := HEN.out false w5 htl hb05
    clear s3
    go_wp2_with fail
    refine hx.mono ?_
    clear hx x0 x1
    rintro e w6 ⟨v6, rfl, hv6, hb6⟩
    obtain ⟨Av6, cv6, rfl, _, _⟩ := hv6.form
    have hb06 := hb05.trans (hb6.mono hb05.size)
    have HV6 := Lib.hid hv6
    have x0 := cell_below hb06 X0.out
    have x1 := cell_below hb06 X1.out
    have hx := HEN.out true w6 htl hb06
    clear hv6
    go_wp2_with fail
    refine hx.mono ?_
    clear hx x0 x1
    rintro e w7 ⟨v7, rfl, hv7, hb7⟩
    obtain ⟨Av7, cv7, rfl, _, _⟩ := hv7.form
    have HV7 := Lib.hid hv7
    have HUN := Lib.hid (HUN.out.below hb6 |>.below hb7)
    have hb57 := hb6.trans (hb7.mono hb6.size)
    have hgz7 := (hb57.block _ (Array.getElem?_eq_some_iff.1 s3').1).trans s3'
    have HV6 := Lib.hid (HV6.out.below hb7)
    clear hv7
    go_wp2_with fail
    go_meet
    exact ⟨by rw [HN.out], ⟨_, by rw [HR0.out]; exact hgz7, by rw [HR0.out]; exact HUN.out⟩, by rw [HE0.out.1]; exact HV6.out, by rw [HE0.out.2]; exact HV7.out, hb25.trans (hb57.mono hb25.size)⟩
  case rest =>
    obtain ⟨rfl, HW⟩ := hcut
    clear HFD HEN PBAD PNEG PPOS PNR PER PEO hgz hbz hB3
    have hb0c := hb2.trans (HW.2.2.2.mono hb2.size)
    have HWT := Lib.hid HW
    clear HW
    have x0 := cell_below hb0c X0.out
    have x1 := cell_below hb0c X1.out
    have hx := HND.out _ hb0c
    go_wp2_with fail
    refine hx.mono ?_
    clear hx x0 x1
    rintro e w6 ⟨u, rfl, hu, hq6⟩
    have hb06 := hb0c.trans (hq6.mono hb0c.size)
    have HWT := Lib.hid (HWT.out.below hq6)
    obtain ⟨Au, cu, rfl, _, _⟩ := hu.form
    have HU := Lib.hid hu
    clear hu
    go_wp2_with fail
    have hn7 := heap_alloc_new w6 (.cells #[.int .i64 NR.id, .string NR.kind, .slice Au NR.props.length cu] 56)
    have hb67 : Below w6.heap.size w6 (w6.alloc (.cells #[.int .i64 NR.id, .string NR.kind, .slice Au NR.props.length cu] 56)) := (Below.refl _ _).alloc (Nat.le_refl _) _
    generalize w6.alloc (.cells #[.int .i64 NR.id, .string NR.kind, .slice Au NR.props.length cu] 56) = w7 at *
    have hb07 := hb06.trans (hb67.mono hb06.size)
    have HWT := Lib.hid (HWT.out.below hb67)
    have HU := Lib.hid (HU.out.below hb67)
    have hx := same_any ne ne w7 (hg.below (hb0.trans (hb07.mono hb0.size)))
    rw [beq_self_eq_true] at hx
    refine hx.mono ?_
    clear hx
    rintro e w8 ⟨rfl, hq8⟩
    have hb08 := hb07.trans (hq8.mono hb07.size)
    have hn8 := (hq8.block _ (Array.getElem?_eq_some_iff.1 hn7).1).trans hn7
    have HWT := Lib.hid (HWT.out.below hq8)
    have HU := Lib.hid (HU.out.below hq8)
    obtain ⟨⟨ub, hwb, hub⟩, _⟩ := HWT.out
    obtain ⟨Aw, cw, rfl, _, _⟩ := hub.form
    have n0 := block_cell hn8 0
    have n1 := block_cell hn8 1
    have n2 := block_cell hn8 2
    have m0 := block_cell hwb 0
    have m1 := block_cell hwb 1
    have m2 := block_cell hwb 2
    have hx := snode_any NR NR _ _ w8 HU.out hub
    rw [decide_eq_true rfl] at hx
    clear hq6 hn7 hb67 hq8 hb07 hb06 hn8 hwb hub
    go_wp2_with fail
    refine hx.mono ?_
    clear hx n0 n1 n2 m0 m1 m2
    rintro e w9 ⟨rfl, hq9⟩
    have hb09 := hb08.trans (hq9.mono hb08.size)
    have HWT := Lib.hid (HWT.out.below hq9)
    clear hq9 hb08 HU
    -- HOU: the contract; E0: which ends; w9: the world; hb09: above w0; 1: back
    have x0 := cell_below (hb09) X0.out
    have x1 := cell_below (hb09) X1.out
    have hx := (HOU).out w9 (hb09)
    go_wp2_with fail
    refine hx.mono ?_
    clear hx x0 x1
    rintro e u1 ⟨v1, rfl, hv1, hq1⟩
    have hr1 := (hb09).trans (hq1.mono (hb09).size)
    obtain ⟨Av1, cv1, rfl, _, _⟩ := hv1.form
    have HV1 := Lib.hid hv1
    have HW1 := Lib.hid (HWT.out.below hq1)
    clear hv1 hq1 HWT
    -- the error is the one told: ne: the number; u1: the world; hr1: it is above w0; u2: the world then; hq2: its fact's name
    have hx := same_any ne ne u1 (hg.below (hb0.trans ((hr1).mono hb0.size)))
    rw [beq_self_eq_true] at hx
    go_wp2_with fail
    refine hx.mono ?_
    clear hx
    rintro e u2 ⟨rfl, hq2⟩
    have hr2 := hr1.trans (hq2.mono hr1.size)
    have HWT := Lib.hid (HW1.out.below hq2)
    have hx := ints_any (E0) (E0) _ _ u2 (HV1.out.below hq2) HWT.out.2.1
    rw [decide_eq_true rfl] at hx
    clear HV1 HW1 hq2 hr1
    go_wp2_with fail
    refine hx.mono ?_
    clear hx
    rintro e u3 ⟨rfl, hq3⟩
    have hr3 := hr2.trans (hq3.mono hr2.size)
    have HWT3 := Lib.hid (HWT.out.below hq3)
    clear hq3 hr2 HWT
    clear HOU
    have HWT := HWT3
    clear HWT3
    have hb10 := hr3
    clear hr3 hb09
    -- HIN: the contract; E1: which ends; u3: the world; hb10: above w0; 2.1: back
    have x0 := cell_below (hb10) X0.out
    have x1 := cell_below (hb10) X1.out
    have hx := (HIN).out u3 (hb10)
    go_wp2_with fail
    refine hx.mono ?_
    clear hx x0 x1
    rintro e u1 ⟨v1, rfl, hv1, hq1⟩
    have hr1 := (hb10).trans (hq1.mono (hb10).size)
    obtain ⟨Av1, cv1, rfl, _, _⟩ := hv1.form
    have HV1 := Lib.hid hv1
    have HW1 := Lib.hid (HWT.out.below hq1)
    clear hv1 hq1 HWT
    -- the error is the one told: ne: the number; u1: the world; hr1: it is above w0; u2: the world then; hq2: its fact's name
    have hx := same_any ne ne u1 (hg.below (hb0.trans ((hr1).mono hb0.size)))
    rw [beq_self_eq_true] at hx
    go_wp2_with fail
    refine hx.mono ?_
    clear hx
    rintro e u2 ⟨rfl, hq2⟩
    have hr2 := hr1.trans (hq2.mono hr1.size)
    have HWT := Lib.hid (HW1.out.below hq2)
    have hx := ints_any (E1) (E1) _ _ u2 (HV1.out.below hq2) HWT.out.2.2.1
    rw [decide_eq_true rfl] at hx
    clear HV1 HW1 hq2 hr1
    go_wp2_with fail
    refine hx.mono ?_
    clear hx
    rintro e u3 ⟨rfl, hq3⟩
    have hr3 := hr2.trans (hq3.mono hr2.size)
    have HWT3 := Lib.hid (HWT.out.below hq3)
    clear hq3 hr2 HWT
    clear HIN hb10 HWT3
    have hb11 := hr3
    clear hr3
    have x0 := cell_below hb11 X0.out
    have x1 := cell_below hb11 X1.out
    go_upto_if 99 with fail
    go_cut [11, 26] (fun f n wx => f = .int .i64 xe ∧ n = .int .i64 xn ∧ wx = u3)
    case first =>
      by_cases hz : z = 0
      case neg =>
        have hzb : (z == 0) = false := by simpa using hz
        have HX := Lib.hid (PXB.out hz)
        clear hz
        go_wp2_with fail
        go_meet
        exact ⟨by rw [HX.out.1], by rw [HX.out.2], rfl⟩
      have hzb : (z == 0) = true := by simpa using hz
      by_cases hl : g.nodes.length = 0
      · have hl0 : decide ((0 : Int) < (g.nodes.length : Int)) = false := decide_eq_false (by omega)
        have hl1 : ¬ ((0 : Int) < (g.nodes.length : Int)) := by omega
        have hxi := PX0.out hl
        have HX := Lib.hid (PXO.out hz (by omega))
        have HZ := Lib.hid hz
        have HI := Lib.hid hxi
        clear hz hl hxi
        go_wp2_with fail
        go_meet
        exact ⟨by rw [HX.out.1, HZ.out], by rw [HX.out.2, HI.out], rfl⟩
      · have hl0 : decide ((0 : Int) < (g.nodes.length : Int)) = true := decide_eq_true (by omega)
        obtain ⟨m, hm⟩ : ∃ m, m = g.nodes.length - 1 := ⟨_, rfl⟩
        obtain ⟨d, hd⟩ : ∃ d, g.nodes[m]? = some d := ⟨g.nodes[m]'(by omega), List.getElem?_eq_getElem _⟩
        have hxi := PXI.out d (by rw [← hm]; exact hd)
        have hdi := PIB.out hz d (List.mem_of_getElem? hd)
        have hnl := (PTL.out hz).2
        have hw1 : IntKind.i64.wrap ((g.nodes.length : Int) - 1) = (m : Int) := by
          rw [show (g.nodes.length : Int) - 1 = (m : Int) by omega]; exact IntWalk.i64_in _ (by omega)
        have hw2 : IntKind.i64.wrap (d.id + 1) = d.id + 1 := IntWalk.i64_in _ (by omega)
        have hm1 : (m : Int) < (g.nodes.length : Int) := by omega
        have hm0 : (0 : Int) ≤ (m : Int) := by omega
        obtain ⟨gb, oo, rfl, un, _, _, _, q0, _, _⟩ := nod_at (H1.out.below hb11).1 hd
        have x0 := cell_below hb11 X0.out
        have HZ := Lib.hid hz
        have HI := Lib.hid hxi
        by_cases hk : 1000 < xi
        · have HX := Lib.hid (PXF.out hz hk)
          have hk1 : decide (1000 < d.id + 1) = true := decide_eq_true (by omega)
          clear hz hl hxi hm hd hdi hk
          go_wp2_with fail
          go_meet
          exact ⟨by rw [HX.out.1], by rw [HX.out.2], rfl⟩
        · have HX := Lib.hid (PXO.out hz (by omega))
          have hk1 : decide (1000 < d.id + 1) = false := decide_eq_false (by omega)
          clear hz hl hxi hm hd hdi hk
          go_wp2_with fail
          go_meet
          exact ⟨by rw [HX.out.1, HZ.out], by rw [HX.out.2, HI.out], rfl⟩
    case rest =>
    obtain ⟨rfl, rfl, rfl⟩ := hcut
    clear PXB PXF PXO PXI PX0 PIB
    have x0 := cell_below hb11 X0.out
    have x1 := cell_below hb11 X1.out
    have hx := HNX.out _ hb11
    go_wp2_with fail
    refine hx.mono ?_
    clear hx x0 x1
    rintro e v1 ⟨rfl, hq1⟩
    have hb12 := hb11.trans (hq1.mono hb11.size)
    -- the error is the one told: xe: the number; v1: the world; hb12: it is above w0; v2: the world then; hq2: its fact's name
    have hx := same_any xe xe v1 (hg.below (hb0.trans ((hb12).mono hb0.size)))
    rw [beq_self_eq_true] at hx
    go_wp2_with fail
    refine hx.mono ?_
    clear hx
    rintro e v2 ⟨rfl, hq2⟩
    have hb13 := hb12.trans (hq2.mono hb12.size)
    clear hb12 hq1 hq2 hb11
    have y0 := cell_below hb13 Y0.out
    have y1 := cell_below hb13 Y1.out
    go_upto_if 125 with fail
    go_cut [9] (fun e wx => e = .int .i64 se ∧ Below v2.heap.size v2 wx)
    case first =>
      by_cases hz : z = 0
      case neg =>
        have hzb : (z == 0) = false := by simpa using hz
        have HX := Lib.hid (show se = z by rw [PSE.out, if_neg hz])
        clear hz
        go_wp2_with fail
        go_meet
        exact ⟨by rw [HX.out], Below.refl _ _⟩
      have hzb : (z == 0) = true := by simpa using hz
      have HX := Lib.hid (show se = zo by rw [PSE.out, if_pos hz])
      have hx := HRO.out v2 hb13
      clear hz
      go_wp2_with fail
      refine hx.mono ?_
      clear hx
      rintro e v3 ⟨rfl, hq3⟩
      go_wp2_with fail
      go_meet
      exact ⟨by rw [HX.out], hq3⟩
    case rest =>
    rename_i v3 _
    obtain ⟨rfl, hq3⟩ := hcut
    clear PSE HRO y0 y1
    have hb14 := hb13.trans (hq3.mono hb13.size)
    have x0 := cell_below hb14 X0.out
    have x1 := cell_below hb14 X1.out
    have y0 := cell_below hb14 Y0.out
    have y1 := cell_below hb14 Y1.out
    have hx := HSM.out _ hb14
    clear hb13
    go_wp2_with fail
    refine hx.mono ?_
    clear hx x0 x1 y0 y1
    rintro e v4 ⟨rfl, hq4⟩
    have hb15 := hb14.trans (hq4.mono hb14.size)
    -- the error is the one told: se: the number; v4: the world; hb15: it is above w0; v5: the world then; hq5: its fact's name
    have hx := same_any se se v4 (hg.below (hb0.trans ((hb15).mono hb0.size)))
    rw [beq_self_eq_true] at hx
    go_wp2_with fail
    refine hx.mono ?_
    clear hx
    rintro e v5 ⟨rfl, hq5⟩
    have hb16 := hb15.trans (hq5.mono hb15.size)
    clear hb14 hb15 hq4 hq5 hq3
    have x0 := cell_below hb16 X0.out
    have x1 := cell_below hb16 X1.out
    have y0 := cell_below hb16 Y0.out
    have y1 := cell_below hb16 Y1.out
    have hx := HSG.out _ hb16
    go_wp2_with fail
    refine hx.mono ?_
    clear hx x0 x1 y0 y1
    rintro e v6 ⟨rfl, hq6⟩
    have hb17 := hb16.trans (hq6.mono hb16.size)
    have hbw := hb0.trans (hb17.mono hb0.size)
    by_cases hs : se = 0
    · have hsr : sr = gq := by rw [PSR.out, if_pos hs]
      have hsb : (se == 0) = true := by simpa using hs
      have HS := Lib.hid hsr
      clear hs hsr
      cases gq
      · go_wp2_with fail
        rw [HS.out]
        go_ret
        exact ⟨rfl, hbw⟩
      · go_wp2_with fail
        rw [HS.out]
        go_ret
        exact ⟨rfl, hbw⟩
    · have hsr : sr = false := by rw [PSR.out, if_neg hs]
      have hsb : (se == 0) = false := by simpa using hs
      have HS := Lib.hid hsr
      clear hs hsr
      cases gq
      · go_wp2_with fail
        rw [HS.out]
        go_ret
        exact ⟨rfl, hbw⟩
      · go_wp2_with fail
        rw [HS.out]
        go_ret
        exact ⟨rfl, hbw⟩
end Go.Proofs.YthefofclbepkoaaDoor
