/- Parts: RfH, Chk5, CkI, CkA, Chk0, Mi. -/
import Derived.Test.YtpfpgmfdcafpnaaGreatDoorMg13
import Derived.Test.YtpfpgmfdcafpnaaGreatDoorMg12
import Derived.Test.YtpfpgmfdcafpnaaGreatDoorMg05
import Derived.Test.YtpfpgmfdcafpnaaGreatDoorMg09
import Derived.Test.YtpfpgmfdcafpnaaGreatDoorMg02
import Derived.Test.YtpfpgmfdcafpnaaGreatDoorMg07
/- Contract of the references: kinref1.Graph: what is wrong with a graph. No condition. -/
namespace Go.Proofs.YtpfpgmfdcafpnaaGreatDoor
open Go Go.RowKit


set_option maxRecDepth 100000 in
set_option maxHeartbeats 8000000 in
theorem rgraph_any (g : Grf) (vn vt : Value) (w : World) (hg : GrfR w vn vt g) :
    Calls Tryz.prog 17 #[.agg #[vn, vt]] w fun e w' => e = .returned (.int .i64 (grfE g)) ∧ Below w.heap.size w w' := by
  obtain ⟨hn, ht⟩ := hg
  obtain ⟨A, c, rfl, hlc, hcm⟩ := hn.form
  obtain ⟨A', c', rfl, hlc', hcm'⟩ := ht.form
  unfold maxLen at hcm hcm'
  have HF : Hid (grfE g = if 60 < g.nodes.length ∨ 120 < g.ties.length then 4 else if nodsE none g.nodes = 0 then tiesE none g.ties else nodsE none g.nodes) := rfl
  obtain ⟨q0, q1⟩ := cell_box2 w (.slice A g.nodes.length c) (.slice A' g.ties.length c') 29
  have hb0 : Below w.heap.size w (w.alloc (.cells #[.slice A g.nodes.length c, .slice A' g.ties.length c'] 29)) := (Below.refl _ _).alloc (Nat.le_refl _) _
  by_cases h1 : 60 < g.nodes.length
  · have HE : Hid (grfE g = 4) := by unfold Hid; rw [HF.out, if_pos (Or.inl h1)]
    have h1' : (60 : Int) < (g.nodes.length : Int) := by omega
    clear hn ht
    go_enter Tryz.func17, Tryz.ntmps17
    go_wp2_with fail
    go_ret
    exact ⟨by rw [HE.out]; rfl, hb0⟩
  have h1' : decide ((60 : Int) < (g.nodes.length : Int)) = false := by simp; omega
  have h1'' : (g.nodes.length : Int) ≤ 60 := by omega
  by_cases h2 : 120 < g.ties.length
  · have HE : Hid (grfE g = 4) := by unfold Hid; rw [HF.out, if_pos (Or.inr h2)]
    have h2' : (120 : Int) < (g.ties.length : Int) := by omega
    clear hn ht
    go_enter Tryz.func17, Tryz.ntmps17
    go_wp2_with fail
    go_ret
    exact ⟨by rw [HE.out]; rfl, hb0⟩
  have h2' : decide ((120 : Int) < (g.ties.length : Int)) = false := by simp; omega
  have h2'' : (g.ties.length : Int) ≤ 120 := by omega
  have HG : Hid (grfE g = if nodsE none g.nodes = 0 then tiesE none g.ties else nodsE none g.nodes) := by unfold Hid; rw [HF.out, if_neg (by omega)]
  have HN0 := Lib.hid (hn.below hb0)
  have HT0 := Lib.hid (ht.below hb0)
  clear HF hn ht h1 h2
  have hw0 : w.heap.size < (w.alloc (.cells #[.slice A g.nodes.length c, .slice A' g.ties.length c'] 29)).heap.size := by simp
  go_enter Tryz.func17, Tryz.ntmps17
  go_wp2_with fail
  generalize hW : w.alloc (.cells #[.slice A g.nodes.length c, .slice A' g.ties.length c'] 29) = W at *
  clear hW
  go_loopw [3] (fun i wr => ∃ k : Nat, k ≤ g.nodes.length ∧ i = .int .i64 k ∧ Below W.heap.size W wr ∧ Hid (nodsE none g.nodes = nodsE (prev g.nodes k) (g.nodes.drop k))) (fun i _ => g.nodes.length - (intOf i).toNat)
  case atStart => exact ⟨0, Nat.zero_le _, rfl, Below.refl _ _, rfl⟩
  case round =>
    obtain ⟨k, hk, rfl, hb, HA⟩ := hrel
    have r0 : wr.cell? ⟨w.heap.size, 0, none⟩ = some (.slice A g.nodes.length c) := cell_below hb q0
    have r1 : wr.cell? ⟨w.heap.size, 1, none⟩ = some (.slice A' g.ties.length c') := cell_below hb q1
    by_cases hlt : k < g.nodes.length
    · obtain ⟨d, hd⟩ : ∃ d, g.nodes[k]? = some d := ⟨_, List.getElem?_eq_getElem hlt⟩
      obtain ⟨b, o, rfl, hall⟩ := nod_all (HN0.out.below hb) (by omega)
      obtain ⟨u, hid, hkd, hpr, x0, x1, x2⟩ := hall _ _ hd
      obtain ⟨Ar, cr, rfl, _, _⟩ := hpr.form
      have HS : Hid (nodsE none g.nodes = nodsE (prev g.nodes k) (d :: g.nodes.drop (k + 1))) := by rw [HA.out, drop_cons hd]; rfl
      have hlt' : (k : Int) < (g.nodes.length : Int) := by omega
      have hidc := rid_any d.id wr
      have HND : Hid (∀ W', Below wr.heap.size wr W' → Calls Tryz.prog 14 #[.agg #[.int .i64 d.id, .string d.kind, .slice Ar d.props.length cr]] W' fun e w' => e = .returned (.int .i64 (nodE d)) ∧ Below W'.heap.size W' w') := fun W' h => rnode_any d _ W' hkd (hpr.below h)
      have HP : Hid (prev g.nodes (k + 1) = some d) := hd
      clear HA hpr hid hkd
      cases h3 : idB d.id with
      | false =>
        have HE : Hid (grfE g = 1) := by
          have : nodsE none g.nodes = 1 := by rw [HS.out]; simp only [nodsE, h3, if_true]
          unfold Hid; rw [HG.out, if_neg (by rw [this]; decide), this]
        rw [h3] at hidc
        clear hall hd HS HG HND
        go_wp2_with fail
        refine hidc.mono ?_
        clear hidc
        rintro e w1 ⟨rfl, rfl⟩
        go_wp2_with fail
        go_ret
        exact ⟨by rw [HE.out]; rfl, hb0.trans (hb.mono hb0.size)⟩
      | true =>
        rw [h3] at hidc
        rcases Nat.eq_zero_or_pos k with hk0 | hk0
        · have hkd0 : decide ((0 : Int) < (k : Int)) = false := by simp; omega
          have hkd1 : (k : Int) ≤ 0 := by omega
          have hkd2 : decide (0 < k) = false := by simp; omega
          have HS' : Hid (nodsE none g.nodes = if nodE d = 0 then nodsE (some d) (g.nodes.drop (k + 1)) else nodE d) := by
            rw [HS.out, hk0]; simp only [nodsE, prev, h3, Bool.true_eq_false, if_false]; rfl
          have HGO : Hid (nodE d = 0 → nodsE none g.nodes = nodsE (prev g.nodes (k + 1)) (g.nodes.drop (k + 1))) := fun h => by rw [HS'.out, if_pos h, HP.out]
          have HST : Hid (nodE d ≠ 0 → grfE g = nodE d) := fun h => by
            have : nodsE none g.nodes = nodE d := by rw [HS'.out, if_neg h]
            rw [HG.out, if_neg (by rw [this]; exact h), this]
          clear hall hd hk0 HS HS'
          generalize nodE d = z at *
          go_wp2_with fail
          refine hidc.mono ?_
          clear hidc
          rintro e w1 ⟨rfl, rfl⟩
          go_wp2_with fail
          go_quiet (fail)
          have hnode := HND.out (wr.drewN nq) (below_drewN (Below.refl _ _) nq)
          have hbq := below_drewN hb nq
          clear HND
          go_wp2_with fail
          -- behind region 9: the node by itself
          refine hnode.mono ?_
          clear hnode
          rintro e w1 ⟨rfl, hb1⟩
          have hb2 := hbq.trans (hb1.mono hbq.size)
          by_cases hz : z = 0
          · have HT := Lib.hid (HGO.out hz)
            subst hz
            clear HGO HST
            go_wp2_with fail
            go_roundw
            case rel => exact ⟨k + 1, by omega, by go_num, hb2, HT⟩
            case measure => simp [intOf]; omega
          · have HE : Hid (grfE g = z) := HST.out hz
            have hzb : (z != 0) = true := by simpa using hz
            clear HGO HST hz
            go_wp2_with fail
            go_ret
            exact ⟨by rw [HE.out]; rfl, hb0.trans (hb2.mono hb0.size)⟩
        · obtain ⟨p, hp⟩ : ∃ p, g.nodes[k - 1]? = some p := ⟨_, List.getElem?_eq_getElem (by omega)⟩
          obtain ⟨u', hid', _, _, y0, _, _⟩ := hall _ _ hp
          have hkd0 : (0 : Int) < (k : Int) := by omega
          have hkd1 : decide ((0 : Int) < (k : Int)) = true := by simp; omega
          have hkd2 : decide (0 < k) = true := by simp; omega
          have hpv : prev g.nodes k = some p := by
            obtain ⟨m, rfl⟩ : ∃ m, k = m + 1 := ⟨k - 1, by omega⟩
            exact hp
          by_cases h5 : d.id ≤ p.id
          · have h5' : decide (d.id ≤ p.id) = true := by simpa using h5
            have HE : Hid (grfE g = 7) := by
              have : nodsE none g.nodes = 7 := by rw [HS.out, hpv]; simp only [nodsE, h3, h5', Bool.true_eq_false, if_false, if_true]
              unfold Hid; rw [HG.out, if_neg (by rw [this]; decide), this]
            clear hall hd hp HS hpv HND HG
            go_wp2_with fail
            refine hidc.mono ?_
            clear hidc
            rintro e w1 ⟨rfl, rfl⟩
            go_wp2_with fail
            go_quiet (fail)
            go_wp2_with fail
            go_ret
            exact ⟨by rw [HE.out]; rfl, hb0.trans ((below_drewN hb _).mono hb0.size)⟩
          · have h5' : decide (d.id ≤ p.id) = false := by simpa using h5
            have h5'' : p.id < d.id := by omega
            have HS' : Hid (nodsE none g.nodes = if nodE d = 0 then nodsE (some d) (g.nodes.drop (k + 1)) else nodE d) := by
              unfold Hid; rw [HS.out, hpv]; simp only [nodsE, h3, h5', Bool.true_eq_false, if_false, Bool.false_eq_true]
            have HGO : Hid (nodE d = 0 → nodsE none g.nodes = nodsE (prev g.nodes (k + 1)) (g.nodes.drop (k + 1))) := fun h => by rw [HS'.out, if_pos h, HP.out]
            have HST : Hid (nodE d ≠ 0 → grfE g = nodE d) := fun h => by
              have : nodsE none g.nodes = nodE d := by rw [HS'.out, if_neg h]
              rw [HG.out, if_neg (by rw [this]; exact h), this]
            clear hall hd hp HS hpv h5 HS'
            generalize nodE d = z at *
            go_wp2_with fail
            refine hidc.mono ?_
            clear hidc
            rintro e w1 ⟨rfl, rfl⟩
            go_wp2_with fail
            go_quiet (fail)
            have hnode := HND.out (wr.drewN nq) (below_drewN (Below.refl _ _) nq)
            have hbq := below_drewN hb nq
            clear HND
            go_wp2_with fail
            -- behind region 9: the node by itself
            refine hnode.mono ?_
            clear hnode
            rintro e w1 ⟨rfl, hb1⟩
            have hb2 := hbq.trans (hb1.mono hbq.size)
            by_cases hz : z = 0
            · have HT := Lib.hid (HGO.out hz)
              subst hz
              clear HGO HST
              go_wp2_with fail
              go_roundw
              case rel => exact ⟨k + 1, by omega, by go_num, hb2, HT⟩
              case measure => simp [intOf]; omega
            · have HE : Hid (grfE g = z) := HST.out hz
              have hzb : (z != 0) = true := by simpa using hz
              clear HGO HST hz
              go_wp2_with fail
              go_ret
              exact ⟨by rw [HE.out]; rfl, hb0.trans (hb2.mono hb0.size)⟩
    · have hkl : k = g.nodes.length := by omega
      subst hkl
      have HT : Hid (grfE g = tiesE none g.ties) := by
        have : nodsE none g.nodes = 0 := by rw [HA.out, List.drop_length]; rfl
        unfold Hid; rw [HG.out, if_pos this]
      clear HG HA HN0
      obtain ⟨wo, rfl⟩ : ∃ wo : World, wo = wr := ⟨_, rfl⟩
      go_wp2_with fail
      go_loopw [6] (fun i wr => ∃ k : Nat, k ≤ g.ties.length ∧ i = .int .i64 k ∧ Below W.heap.size W wr ∧ Hid (tiesE none g.ties = tiesE (prev g.ties k) (g.ties.drop k))) (fun i _ => g.ties.length - (intOf i).toNat)
      case atStart => exact ⟨0, Nat.zero_le _, rfl, hb, rfl⟩
      case round =>
        clear r0 r1
        obtain ⟨k, hk, rfl, hc, HA⟩ := hrel
        have r1 : wr.cell? ⟨w.heap.size, 1, none⟩ = some (.slice A' g.ties.length c') := cell_below hc q1
        by_cases hlt : k < g.ties.length
        · obtain ⟨d, hd⟩ : ∃ d, g.ties[k]? = some d := ⟨_, List.getElem?_eq_getElem hlt⟩
          obtain ⟨b, o, rfl, hall⟩ := tie_all (HT0.out.below hc) (by omega)
          obtain ⟨hok, x0, x1, x2⟩ := hall _ _ hd
          have HS : Hid (tiesE none g.ties = tiesE (prev g.ties k) (d :: g.ties.drop (k + 1))) := by rw [HA.out, drop_cons hd]; rfl
          have HP : Hid (prev g.ties (k + 1) = some d) := hd
          have htie := rtie_any d wr hok.1
          have hlt' : (k : Int) < (g.ties.length : Int) := by omega
          clear HA
          by_cases h4 : tieE d = 0
          case neg =>
            have HE : Hid (grfE g = tieE d) := by
              have : tiesE none g.ties = tieE d := by rw [HS.out]; simp only [tiesE, h4, if_false]
              unfold Hid; rw [HT.out, this]
            clear hall hd HS
            generalize tieE d = z at *
            have hzb : (z != 0) = true := by simpa using h4
            clear h4
            go_wp2_with fail
            refine htie.mono ?_
            clear htie
            rintro e w1 ⟨rfl, hb1⟩
            go_wp2_with fail
            go_ret
            exact ⟨by rw [HE.out]; rfl, hb0.trans ((hc.trans (hb1.mono hc.size)).mono hb0.size)⟩
          rw [h4] at htie
          rcases Nat.eq_zero_or_pos k with hk0 | hk0
          · have hkd0 : ((k : Int) == 0) = true := by simp; omega
            have hkd2 : (k == 0) = true := by simp; omega
            have hkd1 : (k : Int) ≤ 0 := by omega
            have HT' : Hid (tiesE none g.ties = tiesE (prev g.ties (k + 1)) (g.ties.drop (k + 1))) := by
              unfold Hid; rw [HS.out, HP.out, hk0]; simp [tiesE, prev, h4]
            have hkd3 : decide (k = 0) = true := by simp; omega
            clear hall hd hk0 HS h4 HP
            go_wp2_with fail
            refine htie.mono ?_
            clear htie
            rintro e w1 ⟨rfl, hb1⟩
            have hb2 := hc.trans (hb1.mono hc.size)
            go_wp2_with fail
            go_quiet (fail)
            go_wp2_with fail
            go_roundw
            case rel => exact ⟨k + 1, by omega, by go_num, below_drewN hb2 _, HT'⟩
            case measure => simp [intOf]; omega
          · obtain ⟨p, hp⟩ : ∃ p, g.ties[k - 1]? = some p := ⟨_, List.getElem?_eq_getElem (by omega)⟩
            obtain ⟨hok', y0, y1, y2⟩ := hall _ _ hp
            have hkd0 : ((k : Int) == 0) = false := by simp; omega
            have hkd3 : (0 : Int) < (k : Int) := by omega
            have hkd4 : ¬ k = 0 := by omega
            have hpv : prev g.ties k = some p := by
              obtain ⟨m, rfl⟩ : ∃ m, k = m + 1 := ⟨k - 1, by omega⟩
              exact hp
            have hord := fun (x : World) => rless_any p d x
            have HNO : Hid (decide (tieO p d < 0) = false → grfE g = 7) := fun h => by
              have h5' : decide (0 ≤ tieO p d) = true := decide_eq_true (by have := of_decide_eq_false h; omega)
              have : tiesE none g.ties = 7 := by rw [HS.out, hpv]; simp only [tiesE, h4, h5', if_true]
              rw [HT.out, this]
            have HYES : Hid (decide (tieO p d < 0) = true → tiesE none g.ties = tiesE (prev g.ties (k + 1)) (g.ties.drop (k + 1))) := fun h => by
              have h5' : decide (0 ≤ tieO p d) = false := decide_eq_false (by have := of_decide_eq_true h; omega)
              rw [HS.out, HP.out, hpv]; simp only [tiesE, h4, h5', if_true, Bool.false_eq_true, if_false]
            clear hall hd hp HS hpv h4 HP hok hok'
            generalize decide (tieO p d < 0) = q at *
            go_wp2_with fail
            refine htie.mono ?_
            clear htie
            rintro e w1 ⟨rfl, hb1⟩
            have hb2 := hc.trans (hb1.mono hc.size)
            have r1 := cell_below hb1 r1
            have x0 := cell_below hb1 x0
            have x1 := cell_below hb1 x1
            have x2 := cell_below hb1 x2
            have y0 := cell_below hb1 y0
            have y1 := cell_below hb1 y1
            have y2 := cell_below hb1 y2
            go_wp2_with fail
            refine wp_mid_g 14 _ rfl rfl (by kernel_rfl) ?_
            simp only [List.take_succ_cons, List.take_zero, List.drop_succ_cons, List.drop_zero]
            repeat (go_big_quiet_step (fail))
            refine wpQuiet_nil ?_
            refine ⟨by simp [Region.wanted, yielded, go_sem], ?_⟩
            intro _ hw'
            obtain ⟨nq, hw''⟩ := hw'
            subst hw''
            intro K hK
            have hk1 := hord (w1.drewN nq)
            clear hord
            go_wp2_with fail
            refine hk1.mono ?_
            clear hk1
            rintro e w2 ⟨rfl, hb3⟩
            have hb12 := (below_drewN (Below.refl w1.heap.size w1) nq).trans hb3
            refine hK _ _ ?_
            repeat (go_big_quiet_step (fail))
            refine wpQuiet_nil ?_
            intro _ hw'
            obtain ⟨nq2, hw''⟩ := hw'
            subst hw''
            clear hK
            have hbX := below_drewN hb12 nq2
            generalize w2.drewN nq2 = w3 at *
            have hb4 := hb2.trans (hbX.mono hb2.size)
            clear hb3 hb12 hbX r1 x0 x1 x2 y0 y1 y2
            cases q with
            | false =>
              have HE : Hid (grfE g = 7) := HNO.out rfl
              clear HNO HYES
              go_wp2_with fail
              go_ret
              exact ⟨by rw [HE.out]; rfl, hb0.trans (hb4.mono hb0.size)⟩
            | true =>
              have HT' := Lib.hid (HYES.out rfl)
              clear HNO HYES
              go_wp2_with fail
              go_roundw
              case rel => exact ⟨k + 1, by omega, by go_num, hb4, HT'⟩
              case measure => simp [intOf]; omega
        · have hkl : k = g.ties.length := by omega
          subst hkl
          have HE : Hid (grfE g = 0) := by
            have : tiesE none g.ties = 0 := by rw [HA.out, List.drop_length]; rfl
            unfold Hid; rw [HT.out, this]
          clear HA HT
          go_wp2_with fail
          go_ret
          exact ⟨by rw [HE.out]; rfl, hb0.trans (hc.mono hb0.size)⟩
end Go.Proofs.YtpfpgmfdcafpnaaGreatDoor

/- Contract: what is wrong with a schema and a graph by themselves. No condition. -/
namespace Go.Proofs.YtpfpgmfdcafpnaaGreatDoor
open Go Go.RowKit

def readySG (s : Scm) (g : Grf) : Int := if (scmE s).2 = 0 then grfE g else (scmE s).2
theorem cready_any (s : Scm) (g : Grf) (vk vb vn vt : Value) (w : World) (hs : ScmR w vk vb s) (hg : GrfR w vn vt g) :
    Calls Tryz.prog 24 #[.agg #[vk, vb], .agg #[vn, vt]] w fun e w' => e = .returned (errV (readySG s g)) ∧ Below w.heap.size w w' := by
  obtain ⟨A1, c1, rfl, _, _⟩ := hs.1.form
  obtain ⟨A2, c2, rfl, _, _⟩ := hs.2.form
  obtain ⟨A3, c3, rfl, _, _⟩ := hg.1.form
  obtain ⟨A4, c4, rfl, _, _⟩ := hg.2.form
  obtain ⟨W0, hW0⟩ : ∃ W0, W0 = (w.alloc (.cells #[.slice A1 s.kinds.length c1, .slice A2 s.bonds.length c2] 25)).alloc (.cells #[.slice A3 g.nodes.length c3, .slice A4 g.ties.length c4] 29) := ⟨_, rfl⟩
  have hb0 : Below w.heap.size w W0 := by rw [hW0]; exact ((Below.refl _ _).alloc (Nat.le_refl _) _).alloc (by simp) _
  have g0 : W0.heap[w.heap.size]? = some (.cells #[.slice A1 s.kinds.length c1, .slice A2 s.bonds.length c2] 25 (0, 0)) := by
    rw [hW0, Below.heap_alloc _ _ _ (by simp)]; exact heap_alloc_new _ _
  have g1 : W0.heap[w.heap.size + 1]? = some (.cells #[.slice A3 g.nodes.length c3, .slice A4 g.ties.length c4] 29 (0, 0)) := by
    have := heap_alloc_new (w.alloc (.cells #[.slice A1 s.kinds.length c1, .slice A2 s.bonds.length c2] 25)) (.cells #[.slice A3 g.nodes.length c3, .slice A4 g.ties.length c4] 29); rw [hW0]; simpa using this
  have hW0' := hW0.symm
  have hr1 := sright_any s _ _ _ (hs.below hb0)
  have HG := Lib.hid hg
  have HBE : Hid (readySG s g = if (scmE s).2 = 0 then grfE g else (scmE s).2) := rfl
  have HQ := Lib.hid g1
  have x0 := block_cell g0 0
  have x1 := block_cell g0 1
  have hw0 := hb0.size
  generalize hz : (scmE s).2 = z at *
  generalize hbe : readySG s g = be at *
  clear hs hg g0 g1 hz hbe hW0
  go_enter Tryz.func24, Tryz.ntmps24
  go_wp2_with fail
  refine hr1.mono ?_
  clear hr1 hW0'
  rintro e w1 ⟨rfl, hb1⟩
  have hB1 := hb0.trans (hb1.mono hw0)
  have g2 := (hb1.block _ (Array.getElem?_eq_some_iff.1 HQ.out).1).trans HQ.out
  by_cases he : z = 0
  case neg =>
    have HE : Hid (errV be = .iface 76 (.int .i64 z)) := by unfold Hid; rw [HBE.out, if_neg he]; exact errV_some he
    rw [errV_some he]
    clear he
    go_wp2_with fail
    go_ret
    exact ⟨by rw [HE.out]; rfl, hB1⟩
  have HE : Hid (be = grfE g) := by unfold Hid; rw [HBE.out, if_pos he]
  have hr2 := grfCheck_any g _ _ w1 (HG.out.below hB1)
  have y0 := block_cell g2 0
  have y1 := block_cell g2 1
  rw [errV_zero he]
  generalize grfE g = z2 at *
  clear he g2 x0 x1
  go_wp2_with fail
  refine hr2.mono ?_
  clear hr2
  rintro e w2 ⟨rfl, hb2⟩
  go_wp2_with fail
  go_ret
  exact ⟨by rw [HE.out]; rfl, hB1.trans (hb2.mono hB1.size)⟩
end Go.Proofs.YtpfpgmfdcafpnaaGreatDoor

/- Plain: where a property of a name stands, as the document counts. No condition. -/
namespace Go.Proofs.YtpfpgmfdcafpnaaGreatDoor

def atI (r : List Prp) (name : ByteArray) : Int := idxI (fun p => decide (p.name = name)) r
end Go.Proofs.YtpfpgmfdcafpnaaGreatDoor

/- Contracts of the references: kinref1.At, kinref1.Ready. No condition. -/
namespace Go.Proofs.YtpfpgmfdcafpnaaGreatDoor
open Go Go.RowKit


set_option maxHeartbeats 1000000 in
theorem rat_any (l : List Prp) (name : ByteArray) (v : Value) (w : World) (hv : Sl prpL w v l) : Calls Tryz.prog 33 #[v, .string name] w fun e w' => e = .returned (.int .i64 (atI l name)) ∧ w = w' := by
  obtain ⟨A, c, rfl, hlc, hcm⟩ := hv.form
  unfold maxLen at hcm
  go_enter Tryz.func33, Tryz.ntmps33
  go_wp2_with fail
  go_loop [5] (fun i => ∃ k : Nat, k ≤ l.length ∧ i = .int .i64 k ∧ Hid (∀ j x, j < k → l[j]? = some x → decide (x.name = name) = false)) (fun i => l.length - (intOf i).toNat)
  case atStart => exact ⟨0, Nat.zero_le _, rfl, fun j x hj => absurd hj (Nat.not_lt_zero _)⟩
  case round =>
    obtain ⟨k, hk, rfl, HA⟩ := hrel
    by_cases hlt : k < l.length
    · obtain ⟨d, hd⟩ : ∃ d, l[k]? = some d := ⟨_, List.getElem?_eq_getElem hlt⟩
      obtain ⟨b, o, rfl, _, c0, _, _, _⟩ := prp_at hv hd
      have HD : Hid (l[k]? = some d) := hd
      clear hd hv
      by_cases hq0 : d.name = name
      · have hq : decide (d.name = name) = true := decide_eq_true hq0
        have HE : Hid (atI l name = k) := by unfold Hid atI; exact idxI_hit (p := fun k : Prp => decide (k.name = name)) HA.out HD.out hq
        clear hq
        subst hq0
        go_wp2_with fail
        go_ret
        exact ⟨by rw [HE.out]; rfl, rfl⟩
      · have hq : decide (d.name = name) = false := decide_eq_false hq0
        have hqb : (d.name.toList == name.toList) = false := by rw [bytes_beq]; exact hq
        have HS : Hid (∀ j y, j < k + 1 → l[j]? = some y → decide (y.name = name) = false) := miss_step (p := fun k : Prp => decide (k.name = name)) HA.out HD.out hq
        go_wp2_with fail
        go_round
        case rel => exact ⟨k + 1, by omega, by go_num, HS⟩
        case measure => simp [intOf]; omega
    · have hkl : k = l.length := by omega
      subst hkl
      have HE : Hid (atI l name = -1) := by unfold Hid atI; exact idxI_miss (p := fun k : Prp => decide (k.name = name)) HA.out
      clear hv
      go_wp2_with fail
      go_ret
      exact ⟨by rw [HE.out]; rfl, rfl⟩
set_option maxHeartbeats 1000000 in
theorem rready_any (s : Scm) (g : Grf) (vk vb vn vt : Value) (w : World) (hs : ScmR w vk vb s) (hg : GrfR w vn vt g) :
    Calls Tryz.prog 4 #[.agg #[vk, vb], .agg #[vn, vt]] w fun e w' => e = .returned (.int .i64 (readySG s g)) ∧ Below w.heap.size w w' := by
  obtain ⟨A1, c1, rfl, _, _⟩ := hs.1.form
  obtain ⟨A2, c2, rfl, _, _⟩ := hs.2.form
  obtain ⟨A3, c3, rfl, _, _⟩ := hg.1.form
  obtain ⟨A4, c4, rfl, _, _⟩ := hg.2.form
  obtain ⟨W0, hW0⟩ : ∃ W0, W0 = (w.alloc (.cells #[.slice A1 s.kinds.length c1, .slice A2 s.bonds.length c2] 25)).alloc (.cells #[.slice A3 g.nodes.length c3, .slice A4 g.ties.length c4] 29) := ⟨_, rfl⟩
  have hb0 : Below w.heap.size w W0 := by rw [hW0]; exact ((Below.refl _ _).alloc (Nat.le_refl _) _).alloc (by simp) _
  have g0 : W0.heap[w.heap.size]? = some (.cells #[.slice A1 s.kinds.length c1, .slice A2 s.bonds.length c2] 25 (0, 0)) := by
    rw [hW0, Below.heap_alloc _ _ _ (by simp)]; exact heap_alloc_new _ _
  have g1 : W0.heap[w.heap.size + 1]? = some (.cells #[.slice A3 g.nodes.length c3, .slice A4 g.ties.length c4] 29 (0, 0)) := by
    have := heap_alloc_new (w.alloc (.cells #[.slice A1 s.kinds.length c1, .slice A2 s.bonds.length c2] 25)) (.cells #[.slice A3 g.nodes.length c3, .slice A4 g.ties.length c4] 29); rw [hW0]; simpa using this
  have hW0' := hW0.symm
  have HG0 := Lib.hid g0
  have HG1 := Lib.hid g1
  have x0 := block_cell g0 0
  have x1 := block_cell g0 1
  have y0 := block_cell g1 0
  have y1 := block_cell g1 1
  have hw0 := hb0.size
  have HG := Lib.hid (hg.below hb0)
  have hx := rright_any s _ _ W0 (hs.below hb0)
  have HGR : Hid (∀ W, Below W0.heap.size W0 W → Calls Tryz.prog 17 #[.agg #[.slice A3 g.nodes.length c3, .slice A4 g.ties.length c4]] W fun e w' => e = .returned (.int .i64 (grfE g)) ∧ Below W.heap.size W w') := fun W h => rgraph_any g _ _ W (HG.out.below h)
  have HR : Hid (readySG s g = if (scmE s).2 = 0 then grfE g else (scmE s).2) := rfl
  generalize readySG s g = z at *
  generalize (scmE s).2 = a at *
  generalize grfE g = b at *
  clear hs hg g0 g1 hW0 HG
  have Y0 := Lib.hid y0
  have Y1 := Lib.hid y1
  go_enter Tryz.func4, Tryz.ntmps4
  go_wp2_with fail
  clear hW0'
  refine hx.mono ?_
  clear hx x0 x1
  rintro e W1 ⟨rfl, hb1⟩
  by_cases ha : a = 0
  · have hab : (a == 0) = true := by simpa using ha
    have HE : Hid (z = b) := by unfold Hid; rw [HR.out, if_pos ha]
    have y0 := cell_below hb1 Y0.out
    have y1 := cell_below hb1 Y1.out
    have hx := HGR.out W1 hb1
    clear ha
    go_wp2_with fail
    refine hx.mono ?_
    clear hx y0 y1
    rintro e W2 ⟨rfl, hb2⟩
    go_wp2_with fail
    go_ret
    exact ⟨by rw [HE.out]; rfl, hb0.trans ((hb1.trans (hb2.mono hb1.size)).mono hw0)⟩
  · have hab : (a == 0) = false := by simpa using ha
    have HE : Hid (z = a) := by unfold Hid; rw [HR.out, if_neg ha]
    clear ha
    go_wp2_with fail
    go_ret
    exact ⟨by rw [HE.out]; rfl, hb0.trans (hb1.mono hw0)⟩
end Go.Proofs.YtpfpgmfdcafpnaaGreatDoor

/- Contract: a checker tells a fault. No condition. -/
namespace Go.Proofs.YtpfpgmfdcafpnaaGreatDoor
open Go Go.RowKit

structure Flt where
  what : Int
  node : Int
  name : ByteArray
def Flt.enc (d : Flt) : List Value := [.int .i64 d.what, .int .i64 d.node, .string d.name]
def Flt.ok (d : Flt) : Prop := I64 d.what ∧ I64 d.node ∧ Sm d.name
theorem Flt.enc_len (d : Flt) : d.enc.length = 3 := rfl
def fltL : Lay Flt := flatL 3 Flt.ok Flt.enc Flt.enc_len
theorem flt_info : (Tryz.prog.info? 66).map (fun i => (i.zero, i.size, i.bytes)) = some (some (.agg #[.int .i64 0, .int .i64 0, .string .empty]), 3, 32) := by kernel_rfl
theorem Own.is_cells {w : World} {B : Nat} {e : TypeId} {sz n k : Nat} {v : Value} {xs : List Value} (ho : Own w B e sz v n xs) (h : v.ownBlock = some k) : ∃ c fr, w.heap[k]? = some (.cells c e fr) := by
  rcases ho.2 with ⟨rfl, _⟩ | ⟨g, o, cap, cur, rfl, _, hg2, _⟩
  · simp [Value.ownBlock] at h
  · simp [Value.ownBlock] at h
    subst h
    exact ⟨_, _, hg2⟩
/-- A checker: what it asks of, its map, and what it has told. -/
structure Ck (B : Nat) (w : World) (bc : Nat) (vk vb vn vt mv out : Value) (fs : List Flt) : Prop where
  q : w.heap[bc]? = some (.cells #[vk, vb, vn, vt, out, mv] 94 (0, 0))
  l : B ≤ bc
  o : Own w B 66 3 out fs.length (fs.flatMap Flt.enc)
  k : ∀ x ∈ fs, x.ok
theorem Ck.below {B : Nat} {w w' : World} {bc : Nat} {vk vb vn vt mv out : Value} {fs : List Flt} (h : Ck B w bc vk vb vn vt mv out fs) (hb : Below w.heap.size w w') : Ck B w' bc vk vb vn vt mv out fs :=
  ⟨(hb.block _ (Array.getElem?_eq_some_iff.1 h.q).1).trans h.q, h.l, h.o.below hb, h.k⟩
/-- What has come of a checker that told more: all else stays. -/
structure Told1 (B : Nat) (w w' : World) (bc : Nat) (vk vb vn vt mv : Value) (fs : List Flt) : Prop where
  c : ∃ out, Ck B w' bc vk vb vn vt mv out fs
  b : Below B w w'
  s : ∀ T, 66 ≠ T → 94 ≠ T → Same T w w'
  m : ∀ (k : Nat) m c, w.heap[k]? = some (.map m c) → w'.heap[k]? = some (.map m c)
  z : w.heap.size ≤ w'.heap.size
theorem Told1.trans {B : Nat} {w w1 w2 : World} {bc : Nat} {vk vb vn vt mv : Value} {fs gs : List Flt} (h : Told1 B w w1 bc vk vb vn vt mv fs) (k : Told1 B w1 w2 bc vk vb vn vt mv gs) : Told1 B w w2 bc vk vb vn vt mv gs :=
  ⟨k.c, h.b.trans k.b, fun T h1 h2 => (h.s T h1 h2).trans (k.s T h1 h2), fun i m c hm => k.m i m c (h.m i m c hm), Nat.le_trans h.z k.z⟩
theorem Told1.first {B : Nat} {w w1 w2 : World} {bc : Nat} {vk vb vn vt mv : Value} {gs : List Flt} (hb : Below w.heap.size w w1) (hB : B ≤ w.heap.size) (k : Told1 B w1 w2 bc vk vb vn vt mv gs) : Told1 B w w2 bc vk vb vn vt mv gs :=
  ⟨k.c, (hb.mono hB).trans k.b, fun T h1 h2 => (Same.below hb).trans (k.s T h1 h2), fun i m c hm => k.m i m c ((hb.block _ (Array.getElem?_eq_some_iff.1 hm).1).trans hm), Nat.le_trans hb.size k.z⟩
theorem Told1.last {B : Nat} {w w1 w2 : World} {bc : Nat} {vk vb vn vt mv : Value} {gs : List Flt} (k : Told1 B w w1 bc vk vb vn vt mv gs) (hB : B ≤ w1.heap.size) (hb : Below w1.heap.size w1 w2) : Told1 B w w2 bc vk vb vn vt mv gs := by
  obtain ⟨out, hc⟩ := k.c
  exact ⟨⟨out, hc.below hb⟩, k.b.trans (hb.mono hB), fun T h1 h2 => (k.s T h1 h2).trans (Same.below hb), fun i m c hm => (hb.block _ (Array.getElem?_eq_some_iff.1 (k.m i m c hm)).1).trans (k.m i m c hm), Nat.le_trans k.z hb.size⟩
set_option maxRecDepth 100000 in
set_option maxHeartbeats 4000000 in
theorem tell_any (B bc : Nat) (vk vb vn vt mv out : Value) (fs : List Flt) (d : Flt) (w : World) (hB : B ≤ w.heap.size) (hC : Ck B w bc vk vb vn vt mv out fs) (hd : d.ok) (hl : fs.length ≤ 100000) :
    Calls Tryz.prog 45 #[.pointer (some ⟨bc, 0, none⟩), .int .i64 d.what, .int .i64 d.node, .string d.name] w fun e w' => e = .returned (.tuple #[]) ∧ Told1 B w w' bc vk vb vn vt mv (fs ++ [d]) := by
  obtain ⟨A, c, rfl, _, _⟩ := hC.o.form
  obtain ⟨i0, ei, ez, ez1, ez2⟩ := info_parts flt_info
  have x4 := block_cell hC.q 4
  have f4 := block_free hC.q 4
  have HC := Lib.hid hC
  have HD := Lib.hid hd
  have HN : Hid (∀ j u, d.enc[j]? = some u → (w.alloc (.cells #[.int .i64 d.what, .int .i64 d.node, .string d.name] 66)).cell? ⟨w.heap.size, j, none⟩ = some u) := fun j u hj => by
    rw [World.cell?_alloc_at _ _ _ _ rfl]; simpa [Flt.enc] using hj
  clear hC hd
  have HO : Hid (Own (w.alloc (.cells #[.int .i64 d.what, .int .i64 d.node, .string d.name] 66)) B 66 3 (.slice A fs.length c) fs.length (fs.flatMap Flt.enc)) := HC.out.o.alloc _
  have HSB : Hid (B ≤ (w.alloc (.cells #[.int .i64 d.what, .int .i64 d.node, .string d.name] 66)).heap.size) := by unfold Hid; simp; omega
  have HQ : Hid ((w.alloc (.cells #[.int .i64 d.what, .int .i64 d.node, .string d.name] 66)).heap[bc]? = some (.cells #[vk, vb, vn, vt, .slice A fs.length c, mv] 94 (0, 0))) := by
    unfold Hid; rw [Below.heap_alloc _ _ _ (Array.getElem?_eq_some_iff.1 HC.out.q).1]; exact HC.out.q
  go_enter Tryz.func45, Tryz.ntmps45
  go_wp2_with (at_builtin; refine wpList_append_q _ rfl (.tmp 12) (.tmp 17) _ rfl B 66 i0 (.agg #[.int .i64 0, .int .i64 0, .string .empty]) 3 32 Tryz.underlying35 ei ez ez1 ez2 rfl (by decide) (.slice A fs.length c) fs.length (fs.flatMap Flt.enc) rfl HO.out (some ⟨w.heap.size, 0, none⟩) 1 1 d.enc rfl rfl (fun _ => ⟨_, rfl, fun j u hj => by rw [addr_add, Nat.zero_add]; exact HN.out j u hj⟩) (fun u hu => by simp [Flt.enc] at hu; rcases hu with rfl | rfl | rfl <;> rfl) (by unfold maxLen; omega) (by omega) HSB.out ?_; intro v7 w7 hown7 hg7 hat7; obtain ⟨A7, c7, rfl, _, _⟩ := hown7.form; have hq7 := grown_block hg7 HQ.out (HO.out.ne_block HQ.out (by decide)); have e0 := block_cell hq7 4; have e1 := block_free hq7 4)
  go_end0
  refine ⟨rfl, ⟨⟨.slice A7 (fs.length + 1) c7, ?_, HC.out.l, ?_, fun x hx => ?_⟩, ?_, fun T h1 h2 => ?_, fun k m cl hm => ?_, ?_⟩⟩
  · exact setCell_block hq7 4 _
  · have h := hown7.same (Same.setCell (T := 66) (p := ⟨bc, 4, none⟩) hq7 (by decide) (.slice A7 (fs.length + 1) c7))
    rw [flat_snoc] at h
    simpa using h
  · rcases List.mem_append.1 hx with h | h
    · exact HC.out.k x h
    · simp at h; subst h; exact HD.out
  · exact (((Below.refl B w).alloc hB _).grown hg7 HSB.out (fun k e => (HO.out.lt k e).1)).setCell (p := ⟨bc, 4, none⟩) HC.out.l _
  · exact ((Same.alloc w _).trans (Same.grown HO.out h1 hg7)).trans (Same.setCell (p := ⟨bc, 4, none⟩) hq7 h2 _)
  · have hk := (Array.getElem?_eq_some_iff.1 hm).1
    have h1 : (w.alloc (.cells #[.int .i64 d.what, .int .i64 d.node, .string d.name] 66)).heap[k]? = some (.map m cl) := by rw [Below.heap_alloc _ _ _ hk]; exact hm
    have h2 := grown_block hg7 h1 (fun e => by
      obtain ⟨c, fr, h⟩ := HO.out.is_cells e.symm
      rw [h1] at h; cases h)
    rw [Below.heap_setCell _ _ _ _ (by
      intro e
      have e : k = bc := e
      rw [e, hq7] at h2; cases h2)]
    exact h2
  · have h1 := hg7.size
    simp [World.setCell] at h1 ⊢
    omega
end Go.Proofs.YtpfpgmfdcafpnaaGreatDoor

/- Plain: a map from texts to ints that the call made, as a function. No condition. -/
namespace Go.Proofs.YtpfpgmfdcafpnaaGreatDoor
open Go Go.RowKit
open Go.Maps (Keyed)

theorem plainElem_int_inv {H : Type} {P : Program} {e : TypeId} (he : P.underlying e = some (.int .i64)) {v : Value} {z : DataW H × List MemPlace} (h : plainElem P e v = some z) : ∃ n, v = .int .i64 n ∧ z = (.lit (.int .i64 n), []) := by
  unfold plainElem at h
  rw [he] at h
  cases v <;> simp at h
  obtain ⟨⟨rfl, _⟩, rfl⟩ := h
  exact ⟨_, rfl, rfl⟩
def FunIs (D : DataW Unit) (F : ByteArray → Int) : Prop := Maps.IsMap D ∧ ∀ s : ByteArray, s.size ≤ maxLen → D.atKey (.string s.data.toList) (.lit (.int .i64 0)) = .lit (.int .i64 (F s))
theorem FunIs.empty : FunIs (.map []) (fun _ => 0) := ⟨⟨[], rfl⟩, fun _ _ => rfl⟩
theorem FunIs.put {D : DataW Unit} {F : ByteArray → Int} (h : FunIs D F) {x : ByteArray} (n : Int) (hk : WideAt.IsKeyLit (.string x.data.toList)) : FunIs (D.put (.string x.data.toList) (.lit (.int .i64 n))) (fun s => if x = s then n else F s) := by
  refine ⟨h.1.put _ _, fun s hs => ?_⟩
  by_cases e : x = s
  · subst e
    rw [Maps.atKey_put_same h.1 hk]
    simp
  · rw [Maps.atKey_put_other (lit_ne (fun e' => e e'.symm)), h.2 s hs]
    simp [e]
/-- Block b is a map of at most n entries: the function F. -/
def MapI (w : World) (b n : Nat) (F : ByteArray → Int) : Prop :=
  ∃ D : DataW Unit, w.ownsMap Tryz.prog 9 (plainElem Tryz.prog 3) b n D ∧ FunIs D F
theorem zeroInt (w : World) : (zeroValue 3).run Tryz.prog w = .ok (.int .i64 0) w := by kernel_rfl
theorem MapI.made (w : World) : MapI (w.alloc (.map #[] 0)) w.heap.size 0 (fun _ => 0) := ⟨_, World.ownsMap_made w _ _ _, FunIs.empty⟩
theorem MapI.kept {w w' : World} {b n : Nat} {F : ByteArray → Int} {row : Option Nat} (h : MapI w b n F) (hg : w.grownBy w' row) (hne : some b ≠ row) : MapI w' b n F := by
  obtain ⟨D, h1, h2⟩ := h
  exact ⟨D, h1.kept hg hne, h2⟩
theorem MapI.lt {w : World} {b n : Nat} {F : ByteArray → Int} (h : MapI w b n F) : b < w.heap.size := by
  obtain ⟨D, h1, _⟩ := h
  exact h1.lt
set_option maxRecDepth 100000 in
theorem MapI.look {w : World} {b n : Nat} {F : ByteArray → Int} (h : MapI w b n F) {s : ByteArray} (hs : s.size ≤ maxLen) :
    (Instr.lookup 155 (.map (some b)) (.string s) false).run Tryz.prog w = .ok (.int .i64 (F s)) w := by
  obtain ⟨D, h1, h2⟩ := h
  obtain ⟨v, ps, hrun, hv⟩ := h1.lookup setLaw Tryz.underlying155 (zeroInt w) (plainElem_int Tryz.underlying3 (by decide)) (WideMaps.keyOf_string_mk Tryz.underlying9 hs)
  obtain ⟨x, rfl, hx⟩ := plainElem_int_inv Tryz.underlying3 hv
  rw [h2.2 s hs] at hx
  injection hx with hx _
  injection hx with hx
  injection hx with _ hx
  rw [hrun, hx]
set_option maxRecDepth 100000 in
theorem MapI.put {w : World} {b n : Nat} {F : ByteArray → Int} (h : MapI w b n F) (hn : n < maxLen) {s : ByteArray} (hs : s.size ≤ maxLen) {v : Int} (hv : I64 v) :
    ∃ w', (Instr.mapUpdate 155 (.map (some b)) (.string s) (.int .i64 v)).run Tryz.prog w = .ok () w' ∧ MapI w' b (n + 1) (fun t => if s = t then v else F t) ∧ w.grownBy w' (some b) := by
  obtain ⟨D, h1, h2⟩ := h
  have hkey := WideMaps.keyOf_string_mk Tryz.underlying9 hs
  have hwf : (Lit.int .i64 v).wf = true := by
    obtain ⟨h1, h2⟩ := hv
    have e1 : IntKind.min .i64 = -9223372036854775808 := by decide
    have e2 : IntKind.max .i64 = 9223372036854775807 := by decide
    simp only [Lit.wf, Bool.and_eq_true, decide_eq_true_eq, e1, e2]
    exact ⟨h1, h2⟩
  obtain ⟨w', hrun, hm, hg⟩ := h1.update setLaw Tryz.underlying155 hn hkey (plainElem_int (H := Unit) Tryz.underlying3 hwf)
  exact ⟨w', hrun, ⟨_, hm, h2.put v trivial⟩, hg⟩
end Go.Proofs.YtpfpgmfdcafpnaaGreatDoor
