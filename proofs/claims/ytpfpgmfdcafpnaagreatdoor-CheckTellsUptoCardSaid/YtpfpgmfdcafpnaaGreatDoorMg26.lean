/- Parts: CTells, OpenA, OpenB, OpenC, OpenE. -/
import Derived.Test.YtpfpgmfdcafpnaaGreatDoorMg24
import Derived.Test.YtpfpgmfdcafpnaaGreatDoorMg25
import Derived.Test.YtpfpgmfdcafpnaaGreatDoorMg22
import Derived.Deep.DeepCutAuto
import Derived.Test.YtpfpgmfdcafpnaaGreatDoorMg01
import Derived.Test.YtpfpgmfdcafpnaaGreatDoorRows
import Derived.Deep.Slices
import Derived.Lib.SmallJoins
import Derived.JoinedCond
import Derived.Carry
import Derived.ChangeMaps5
/- Contract: the law CheckTells answers true. -/
namespace Go.Proofs.YtpfpgmfdcafpnaaGreatDoor
open Go Go.RowKit

theorem alone_told {s : Scm} {n : Nod} (h : nodeFE s n = 0) : (scmE s).2 = 0 ∧ nodE n = 0 ∧ Right s.kinds ∧ nodeFR s n = rAloneF s n ∧ n.props.length ≤ 8 := by
  have h0 := h
  unfold nodeFE at h
  split at h
  · rename_i h1
    obtain ⟨hr, _⟩ := scm_right h1
    obtain ⟨h2, h3⟩ := nodE_rec h
    exact ⟨h1, h, hr, by unfold nodeFR; rw [if_pos h0, rAlone_eq hr h h3], h2⟩
  · rename_i h1; exact absurd h h1
set_option maxRecDepth 100000 in
set_option maxHeartbeats 32000000 in
theorem checkTells_any (s : Scm) (g : Grf) (n : Nod) (name : ByteArray) (vk vb vn vt u : Value) (w : World) (hg : GlobOk w) (hs : ScmR w vk vb s) (hgr : GrfR w vn vt g) (hid : I64 n.id) (hkd : Sm n.kind) (hu : Sl prpL w u n.props) (_hnm : Sm name) :
    Calls Tryz.prog 3 #[.agg #[vk, vb], .agg #[vn, vt], .agg #[.int .i64 n.id, .string n.kind, u], .string name] w fun e w' => e = .returned (.bool true) ∧ Below w.heap.size w w' := by
  obtain ⟨A1, c1, rfl, _, _⟩ := hs.1.form
  obtain ⟨A2, c2, rfl, _, _⟩ := hs.2.form
  obtain ⟨A3, c3, rfl, _, _⟩ := hgr.1.form
  obtain ⟨A4, c4, rfl, _, _⟩ := hgr.2.form
  obtain ⟨A5, c5, rfl, _, _⟩ := hu.form
  obtain ⟨W0, hW0⟩ : ∃ W0, W0 = ((w.alloc (.cells #[.slice A1 s.kinds.length c1, .slice A2 s.bonds.length c2] 25)).alloc (.cells #[.slice A3 g.nodes.length c3, .slice A4 g.ties.length c4] 29)).alloc (.cells #[.int .i64 n.id, .string n.kind, .slice A5 n.props.length c5] 33) := ⟨_, rfl⟩
  have hb0 : Below w.heap.size w W0 := by rw [hW0]; exact (((Below.refl _ _).alloc (Nat.le_refl _) _).alloc (by simp) _).alloc (by simp; omega) _
  have g0 : W0.heap[w.heap.size]? = some (.cells #[.slice A1 s.kinds.length c1, .slice A2 s.bonds.length c2] 25 (0, 0)) := by
    rw [hW0, Below.heap_alloc _ _ _ (by simp; omega), Below.heap_alloc _ _ _ (by simp)]; exact heap_alloc_new _ _
  have g1 : W0.heap[w.heap.size + 1]? = some (.cells #[.slice A3 g.nodes.length c3, .slice A4 g.ties.length c4] 29 (0, 0)) := by
    have := heap_alloc_new (w.alloc (.cells #[.slice A1 s.kinds.length c1, .slice A2 s.bonds.length c2] 25)) (.cells #[.slice A3 g.nodes.length c3, .slice A4 g.ties.length c4] 29); rw [hW0, Below.heap_alloc _ _ _ (by simp)]; simpa using this
  have g2 : W0.heap[w.heap.size + 1 + 1]? = some (.cells #[.int .i64 n.id, .string n.kind, .slice A5 n.props.length c5] 33 (0, 0)) := by
    have := heap_alloc_new ((w.alloc (.cells #[.slice A1 s.kinds.length c1, .slice A2 s.bonds.length c2] 25)).alloc (.cells #[.slice A3 g.nodes.length c3, .slice A4 g.ties.length c4] 29)) (.cells #[.int .i64 n.id, .string n.kind, .slice A5 n.props.length c5] 33); rw [hW0]; simpa using this
  have hW0' := hW0.symm
  have hw0 := hb0.size
  have X0 := Lib.hid (block_cell g0 0)
  have X1 := Lib.hid (block_cell g0 1)
  have Y0 := Lib.hid (block_cell g1 0)
  have Y1 := Lib.hid (block_cell g1 1)
  have Z0 := Lib.hid (block_cell g2 0)
  have Z1 := Lib.hid (block_cell g2 1)
  have Z2 := Lib.hid (block_cell g2 2)
  have HS := Lib.hid (hs.below hb0)
  have HG := Lib.hid (hgr.below hb0)
  have HU := Lib.hid (hu.below hb0)
  have HRD : Hid (∀ W, Below W0.heap.size W0 W → Calls Tryz.prog 4 #[.agg #[.slice A1 s.kinds.length c1, .slice A2 s.bonds.length c2], .agg #[.slice A3 g.nodes.length c3, .slice A4 g.ties.length c4]] W fun e w' => e = .returned (.int .i64 (readySG s g)) ∧ Below W.heap.size W w') := fun W h => rready_any s g _ _ _ _ W (HS.out.below h) (HG.out.below h)
  have HRF : Hid (readySG s g = 0 → ∀ W, Below W0.heap.size W0 W → Calls Tryz.prog 5 #[.agg #[.slice A1 s.kinds.length c1, .slice A2 s.bonds.length c2], .agg #[.slice A3 g.nodes.length c3, .slice A4 g.ties.length c4]] W fun e w' => ∃ u, e = .returned u ∧ Sl fltL w' u (faultsR s g) ∧ Below W.heap.size W w') := fun hz W h => by
    unfold faultsR; rw [if_pos hz]
    exact rfaults_any s g _ _ _ _ W (HS.out.below h) (HG.out.below h) (readySG_zero hz).1 (readySG_zero hz).2
  have HFA : Hid (∀ W, Below W0.heap.size W0 W → Calls Tryz.prog 6 #[.agg #[.slice A1 s.kinds.length c1, .slice A2 s.bonds.length c2], .agg #[.slice A3 g.nodes.length c3, .slice A4 g.ties.length c4]] W fun e w' => ∃ u, e = .returned (.tuple #[u, errV (readySG s g)]) ∧ Sl fltL w' u (faultsR s g) ∧ Below W.heap.size W w') := fun W h => faults_any s g _ _ _ _ W (HS.out.below h) (HG.out.below h)
  have HCO : Hid (∀ W, Below W0.heap.size W0 W → Calls Tryz.prog 9 #[.agg #[.slice A1 s.kinds.length c1, .slice A2 s.bonds.length c2], .agg #[.slice A3 g.nodes.length c3, .slice A4 g.ties.length c4]] W fun e w' => e = .returned (.tuple #[.bool (confR s g), errV (readySG s g)]) ∧ Below W.heap.size W w') := fun W h => conforms_any s g _ _ _ _ W (HS.out.below h) (HG.out.below h)
  have HKD : Hid (∀ W, Below W0.heap.size W0 W → Calls Tryz.prog 10 #[.slice A1 s.kinds.length c1, .string name] W fun e w' => e = .returned (.int .i64 (kFind s.kinds name)) ∧ W = w') := fun W h => rkind_any s.kinds name _ W (HS.out.below h).1
  have HOF : Hid (readySG s g = 0 → ∀ W, Below W0.heap.size W0 W → Calls Tryz.prog 11 #[.agg #[.slice A1 s.kinds.length c1, .slice A2 s.bonds.length c2], .agg #[.slice A3 g.nodes.length c3, .slice A4 g.ties.length c4], .string name] W fun e w' => ∃ A c, e = .returned (.slice A (g.nodes.countP (kinN s name)) c) ∧ Below W.heap.size W w') := fun hz W h =>
    rof_any s g name _ _ _ _ W (HS.out.below h) (HG.out.below h) (scm_right (readySG_zero hz).1).1 (grf_ok (readySG_zero hz).2).1
  have HCN : Hid (∀ W, Below W0.heap.size W0 W → Calls Tryz.prog 12 #[.agg #[.slice A1 s.kinds.length c1, .slice A2 s.bonds.length c2], .agg #[.slice A3 g.nodes.length c3, .slice A4 g.ties.length c4], .string name] W fun e w' => e = .returned (.tuple #[.int .i64 (countR s g name), errV (countE s g name)]) ∧ Below W.heap.size W w') := fun W h => count_any s g name _ _ _ _ W (HS.out.below h) (HG.out.below h)
  have HRR : Hid (∀ W, Below W0.heap.size W0 W → Calls Tryz.prog 13 #[.agg #[.slice A1 s.kinds.length c1, .slice A2 s.bonds.length c2]] W fun e w' => e = .returned (.int .i64 (scmE s).2) ∧ Below W.heap.size W w') := fun W h => rright_any s _ _ W (HS.out.below h)
  have HND : Hid (∀ W, Below W0.heap.size W0 W → Calls Tryz.prog 14 #[.agg #[.int .i64 n.id, .string n.kind, .slice A5 n.props.length c5]] W fun e w' => e = .returned (.int .i64 (nodE n)) ∧ Below W.heap.size W w') := fun W h => rnode_any n _ W hkd (HU.out.below h)
  have HAL : Hid (nodeFE s n = 0 → ∀ W, Below W0.heap.size W0 W → Calls Tryz.prog 15 #[.agg #[.slice A1 s.kinds.length c1, .slice A2 s.bonds.length c2], .agg #[.int .i64 n.id, .string n.kind, .slice A5 n.props.length c5]] W fun e w' => ∃ u, e = .returned u ∧ Sl fltL w' u (nodeFR s n) ∧ Below W.heap.size W w') := fun hz W h => by
    obtain ⟨_, _, hr, he, hp⟩ := alone_told hz
    rw [he]
    refine (ralone_any s n _ _ _ W (HS.out.below h) (HU.out.below h) hid hkd hr (by omega)).mono ?_
    rintro e w' ⟨v, h1, h2, h3, _, h5⟩
    exact ⟨v, h1, Own.flat Flt.enc_len h3 h2, h5⟩
  have HNF : Hid (∀ W, Below W0.heap.size W0 W → Calls Tryz.prog 16 #[.agg #[.slice A1 s.kinds.length c1, .slice A2 s.bonds.length c2], .agg #[.int .i64 n.id, .string n.kind, .slice A5 n.props.length c5]] W fun e w' => ∃ u, e = .returned (.tuple #[u, errV (nodeFE s n)]) ∧ Sl fltL w' u (nodeFR s n) ∧ Below W.heap.size W w') := fun W h => nodeFaults_any s n _ _ _ W (HS.out.below h) hid hkd (HU.out.below h)
  have PFN : Hid (readySG s g ≠ 0 → faultsR s g = []) := fun h => by unfold faultsR; rw [if_neg h]
  have PCF : Hid (confR s g = (decide (readySG s g = 0) && decide ((faultsR s g).length = 0))) := rfl
  have PC1 : Hid (readySG s g ≠ 0 → countE s g name = readySG s g ∧ countR s g name = 0) := countE_bad
  have PC2 : Hid (readySG s g = 0 → kFind s.kinds name < 0 → countE s g name = 5 ∧ countR s g name = 0) := countE_none
  have PC3 : Hid (readySG s g = 0 → 0 ≤ kFind s.kinds name → countE s g name = 0 ∧ countR s g name = (g.nodes.countP (kinN s name) : Nat)) := fun h1 h2 => countE_ok h1 (by omega)
  have PN1 : Hid ((scmE s).2 = 0 → nodeFE s n = nodE n) := fun h => by unfold nodeFE; rw [if_pos h]
  have PN2 : Hid ((scmE s).2 ≠ 0 → nodeFE s n = (scmE s).2) := fun h => by unfold nodeFE; rw [if_neg h]
  have PNR : Hid (nodeFE s n ≠ 0 → nodeFR s n = []) := fun h => by unfold nodeFR; rw [if_neg h]
  generalize readySG s g = z at *
  generalize faultsR s g = FR at *
  generalize confR s g = cf at *
  generalize kFind s.kinds name = kf at *
  generalize countE s g name = ce at *
  generalize countR s g name = cr at *
  generalize g.nodes.countP (kinN s name) = cnt at *
  generalize (scmE s).2 = rz at *
  generalize nodE n = ne at *
  generalize nodeFE s n = nf at *
  generalize nodeFR s n = NR at *
  clear hs hgr hu g0 g1 g2 hW0 hid hkd
  have x0 := X0.out
  have x1 := X1.out
  have y0 := Y0.out
  have y1 := Y1.out
  have hx := HRD.out W0 (Below.refl _ _)
  go_enter Tryz.func3, Tryz.ntmps3
  go_wp2_with fail
  clear hW0'
  refine hx.mono ?_
  clear hx x0 x1 y0 y1 HRD
  rintro e w1 ⟨rfl, hb1⟩
  have x0 := cell_below hb1 X0.out
  have x1 := cell_below hb1 X1.out
  have y0 := cell_below hb1 Y0.out
  have y1 := cell_below hb1 Y1.out
  go_upto_if 28 with fail
  go_cut [10] (fun v wx => Sl fltL wx v FR ∧ Below w1.heap.size w1 wx)
  case first =>
    by_cases hz : z = 0
    · have hzb : (z == 0) = true := by simpa using hz
      have hx := HRF.out hz w1 hb1
      clear hz
      go_wp2_with fail
      refine hx.mono ?_
      clear hx
      rintro e w2 ⟨u2, rfl, hu2, hb2⟩
      go_wp2_with fail
      go_meet
      exact ⟨hu2, hb2⟩
    · have hzb : (z == 0) = false := by simpa using hz
      have HN := Lib.hid (PFN.out hz)
      clear hz
      go_wp2_with fail
      go_meet
      exact ⟨by rw [HN.out]; exact Sl.nil 0 (Nat.zero_le _) none, Below.refl _ _⟩
  case rest =>
  rename_i vw w2
  obtain ⟨hvw, hb12⟩ := hcut
  obtain ⟨Aw, cw, rfl, _, _⟩ := hvw.form
  have HVW := Lib.hid hvw
  have hb2 := hb1.trans (hb12.mono hb1.size)
  clear hvw hb12 x0 x1 y0 y1 HRF PFN hb1
  have x0 := cell_below hb2 X0.out
  have x1 := cell_below hb2 X1.out
  have y0 := cell_below hb2 Y0.out
  have y1 := cell_below hb2 Y1.out
  have hx := HFA.out _ hb2
  go_wp2_with fail
  refine hx.mono ?_
  clear hx x0 x1 y0 y1 HFA
  rintro e w3 ⟨u3, rfl, hu3, hq3⟩
  obtain ⟨A3f, c3f, rfl, _, _⟩ := hu3.form
  have hb3 := hb2.trans (hq3.mono hb2.size)
  have HVW := Lib.hid (HVW.out.below hq3)
  have HU3 := Lib.hid hu3
  clear hu3 hq3
  -- the error is the one told: z: the number; w3: the world; hb3: it is above W0; w4: the world then; hb4: that it is above W0
  have hx := same_any z z w3 (hg.below (hb0.trans ((hb3).mono hw0)))
  rw [beq_self_eq_true] at hx
  go_wp2_with fail
  refine hx.mono ?_
  clear hx
  rintro e w4 ⟨rfl, hqe⟩
  have hb4 := (hb3).trans (hqe.mono (hb3).size)
  have HVW := Lib.hid (HVW.out.below hqe)
  have HU3 := Lib.hid (HU3.out.below hqe)
  clear hqe hb3 hb2
  have hx := sfaults_any FR FR _ _ w4 HU3.out HVW.out
  rw [decide_eq_true rfl] at hx
  go_wp2_with fail
  refine hx.mono ?_
  clear hx HVW HU3
  rintro e w5 ⟨rfl, hq5⟩
  have hb5 := hb4.trans (hq5.mono hb4.size)
  clear hq5 hb4
  have x0 := cell_below hb5 X0.out
  have x1 := cell_below hb5 X1.out
  have y0 := cell_below hb5 Y0.out
  have y1 := cell_below hb5 Y1.out
  have hx := HCO.out _ hb5
  go_wp2_with fail
  refine hx.mono ?_
  clear hx x0 x1 y0 y1 HCO
  rintro e w6 ⟨rfl, hq6⟩
  have hb6 := hb5.trans (hq6.mono hb5.size)
  clear hq6 hb5
  -- the error is the one told: z: the number; w6: the world; hb6: it is above W0; w7: the world then; hb7: that it is above W0
  have hx := same_any z z w6 (hg.below (hb0.trans ((hb6).mono hw0)))
  rw [beq_self_eq_true] at hx
  go_wp2_with fail
  refine hx.mono ?_
  clear hx
  rintro e w7 ⟨rfl, hqe⟩
  have hb7 := (hb6).trans (hqe.mono (hb6).size)
  clear hqe hb6
  have x0 := cell_below hb7 X0.out
  have x1 := cell_below hb7 X1.out
  have y0 := cell_below hb7 Y0.out
  have y1 := cell_below hb7 Y1.out
  obtain ⟨q, hq⟩ : ∃ q, q = (decide (z = 0) && decide (kf < 0)) := ⟨_, rfl⟩
  have HQ := Lib.hid hq
  clear hq
  go_upto_region 12 with fail
  go_cut [62] (fun b wx => b = .bool q ∧ wx = w7)
  case first =>
    by_cases hz : z = 0
    · have hzb : (z == 0) = true := by simpa using hz
      have HZ : Hid (decide (z = 0) = true) := decide_eq_true hz
      have hx := HKD.out w7 hb7
      clear hz
      go_wp2_with fail
      refine hx.mono ?_
      clear hx
      rintro e w8 ⟨rfl, rfl⟩
      go_wp2_with fail
      go_meet
      exact ⟨by rw [HQ.out, HZ.out]; rfl, rfl⟩
    · have hzb : (z == 0) = false := by simpa using hz
      have HZ : Hid (decide (z = 0) = false) := decide_eq_false hz
      clear hz
      go_wp2_with fail
      go_meet
      exact ⟨by rw [HQ.out, HZ.out]; rfl, rfl⟩
  case rest =>
  obtain ⟨rfl, rfl⟩ := hcut
  clear HKD
  go_upto_if 62 with fail
  go_cut [17, 18] (fun f m wx => f = .int .i64 ce ∧ m = .int .i64 cr ∧ Below W0.heap.size W0 wx)
  case first =>
    by_cases hz : z = 0
    · have hzb : (z == 0) = true := by simpa using hz
      by_cases hk : kf < 0
      · obtain rfl : q = true := by rw [HQ.out, decide_eq_true hz, decide_eq_true hk]; rfl
        have HP := Lib.hid (PC2.out hz hk)
        have HB := Lib.hid hb7
        clear hz
        go_wp2_with fail
        go_meet
        exact ⟨by rw [HP.out.1], by rw [HP.out.2], HB.out⟩
      · obtain rfl : q = false := by rw [HQ.out, decide_eq_true hz, decide_eq_false hk]; rfl
        have HP := Lib.hid (PC3.out hz (by omega))
        have HZ := Lib.hid hz
        have hx := HOF.out hz _ hb7
        clear hz
        go_wp2_with fail
        refine hx.mono ?_
        clear hx
        rintro e w8 ⟨A8, c8, rfl, hq8⟩
        have HB := Lib.hid (hb7.trans (hq8.mono hb7.size))
        go_wp2_with fail
        go_meet
        exact ⟨by rw [HP.out.1, HZ.out], by rw [HP.out.2], HB.out⟩
    · have hzb : (z == 0) = false := by simpa using hz
      obtain rfl : q = false := by rw [HQ.out, decide_eq_false hz]; rfl
      have HP := Lib.hid (PC1.out hz)
      have HB := Lib.hid hb7
      clear hz
      go_wp2_with fail
      go_meet
      exact ⟨by rw [HP.out.1], by rw [HP.out.2], HB.out⟩
  case rest =>
  rename_i w8
  obtain ⟨rfl, rfl, hb8⟩ := hcut
  clear x0 x1 y0 y1 hb7 HOF PC1 PC2 PC3
  have x0 := cell_below hb8 X0.out
  have x1 := cell_below hb8 X1.out
  have y0 := cell_below hb8 Y0.out
  have y1 := cell_below hb8 Y1.out
  have hx := HCN.out _ hb8
  go_wp2_with fail
  refine hx.mono ?_
  clear hx x0 x1 y0 y1 HCN
  rintro e w9 ⟨rfl, hq9⟩
  have hb9 := hb8.trans (hq9.mono hb8.size)
  clear hq9 hb8
  -- the error is the one told: ce: the number; w9: the world; hb9: it is above W0; w10: the world then; hb10: that it is above W0
  have hx := same_any ce ce w9 (hg.below (hb0.trans ((hb9).mono hw0)))
  rw [beq_self_eq_true] at hx
  go_wp2_with fail
  refine hx.mono ?_
  clear hx
  rintro e w10 ⟨rfl, hqe⟩
  have hb10 := (hb9).trans (hqe.mono (hb9).size)
  clear hqe hb9
  have x0 := cell_below hb10 X0.out
  have x1 := cell_below hb10 X1.out
  have hx := HRR.out _ hb10
  go_wp2_with fail
  refine hx.mono ?_
  clear hx x0 x1 HRR
  rintro e w11 ⟨rfl, hq11⟩
  have hb11 := hb10.trans (hq11.mono hb10.size)
  clear hq11 hb10
  have z0 := cell_below hb11 Z0.out
  have z1 := cell_below hb11 Z1.out
  have z2 := cell_below hb11 Z2.out
  go_upto_if 83 with fail
  go_cut [17] (fun f wx => f = .int .i64 nf ∧ Below W0.heap.size W0 wx)
  case first =>
    by_cases hz : rz = 0
    · have hzb : (rz == 0) = true := by simpa using hz
      have HP := Lib.hid (PN1.out hz)
      have hx := HND.out _ hb11
      clear hz
      go_wp2_with fail
      refine hx.mono ?_
      clear hx
      rintro e w12 ⟨rfl, hq12⟩
      have HB := Lib.hid (hb11.trans (hq12.mono hb11.size))
      go_wp2_with fail
      go_meet
      exact ⟨by rw [HP.out], HB.out⟩
    · have hzb : (rz == 0) = false := by simpa using hz
      have HP := Lib.hid (PN2.out hz)
      have HB := Lib.hid hb11
      clear hz
      go_wp2_with fail
      go_meet
      exact ⟨by rw [HP.out], HB.out⟩
  case rest =>
  rename_i w12
  obtain ⟨rfl, hb12⟩ := hcut
  clear z0 z1 z2 hb11 HND PN1 PN2
  have x0 := cell_below hb12 X0.out
  have x1 := cell_below hb12 X1.out
  have z0 := cell_below hb12 Z0.out
  have z1 := cell_below hb12 Z1.out
  have z2 := cell_below hb12 Z2.out
  go_upto_if 87 with fail
  go_cut [10] (fun v wx => Sl fltL wx v NR ∧ Below W0.heap.size W0 wx)
  case first =>
    by_cases hz : nf = 0
    · have hzb : (nf == 0) = true := by simpa using hz
      have hx := HAL.out hz _ hb12
      clear hz
      go_wp2_with fail
      refine hx.mono ?_
      clear hx
      rintro e w13 ⟨u13, rfl, hu13, hq13⟩
      have HB := Lib.hid (hb12.trans (hq13.mono hb12.size))
      go_wp2_with fail
      go_meet
      exact ⟨hu13, HB.out⟩
    · have hzb : (nf == 0) = false := by simpa using hz
      have HN := Lib.hid (PNR.out hz)
      have HB := Lib.hid hb12
      clear hz
      go_wp2_with fail
      go_meet
      exact ⟨by rw [HN.out]; exact Sl.nil 0 (Nat.zero_le _) none, HB.out⟩
  case rest =>
  rename_i vq w13
  obtain ⟨hvq, hb13⟩ := hcut
  obtain ⟨Aq, cq, rfl, _, _⟩ := hvq.form
  have HVQ := Lib.hid hvq
  clear hvq x0 x1 z0 z1 z2 hb12 HAL PNR
  have x0 := cell_below hb13 X0.out
  have x1 := cell_below hb13 X1.out
  have z0 := cell_below hb13 Z0.out
  have z1 := cell_below hb13 Z1.out
  have z2 := cell_below hb13 Z2.out
  have hx := HNF.out _ hb13
  go_wp2_with fail
  refine hx.mono ?_
  clear hx x0 x1 z0 z1 z2 HNF
  rintro e w14 ⟨u14, rfl, hu14, hq14⟩
  obtain ⟨A14, c14, rfl, _, _⟩ := hu14.form
  have hb14 := hb13.trans (hq14.mono hb13.size)
  have HVQ := Lib.hid (HVQ.out.below hq14)
  have HU14 := Lib.hid hu14
  clear hu14 hq14 hb13
  -- the error is the one told: nf: the number; w14: the world; hb14: it is above W0; w15: the world then; hb15: that it is above W0
  have hx := same_any nf nf w14 (hg.below (hb0.trans ((hb14).mono hw0)))
  rw [beq_self_eq_true] at hx
  go_wp2_with fail
  refine hx.mono ?_
  clear hx
  rintro e w15 ⟨rfl, hqe⟩
  have hb15 := (hb14).trans (hqe.mono (hb14).size)
  have HVQ := Lib.hid (HVQ.out.below hqe)
  have HU14 := Lib.hid (HU14.out.below hqe)
  clear hqe hb14
  have hx := sfaults_any NR NR _ _ w15 HU14.out HVQ.out
  rw [decide_eq_true rfl] at hx
  go_wp2_with fail
  refine hx.mono ?_
  clear hx HVQ HU14
  rintro e w16 ⟨rfl, hq16⟩
  have HBW := Lib.hid (hb0.trans ((hb15.trans (hq16.mono hb15.size)).mono hw0))
  clear hq16 hb15
  have hfl : decide ((FR.length : Int) = 0) = decide (FR.length = 0) := by
    by_cases h : FR.length = 0
    · rw [decide_eq_true h, decide_eq_true (by omega)]
    · rw [decide_eq_false h, decide_eq_false (by omega)]
  have hfb : ((FR.length : Int) == 0) = decide (FR.length = 0) := hfl
  by_cases hz : z = 0
  · have hzb : (z == 0) = true := by simpa using hz
    have hcf : cf = decide (FR.length = 0) := by rw [PCF.out, decide_eq_true hz]; rfl
    generalize hfd : decide (FR.length = 0) = fd at *
    subst hcf
    have HFD := Lib.hid hfd
    clear hz hfl hfd
    cases cf
    all_goals
      go_wp2_with fail
      go_ret
      exact ⟨rfl, HBW.out⟩
  · have hzb : (z == 0) = false := by simpa using hz
    have hcf : cf = false := by rw [PCF.out, decide_eq_false hz]; rfl
    subst hcf
    clear hz hfl hfb
    go_wp2_with fail
    go_ret
    exact ⟨rfl, HBW.out⟩
end Go.Proofs.YtpfpgmfdcafpnaaGreatDoor

/- Plain: what comes in, read as data of bulk at most 1048576, lies in memory as the contracts want it. -/
namespace Go.Proofs.YtpfpgmfdcafpnaaGreatDoor
open Go Go.RowKit Go.Deep Go.ChangeShapes Go.WideShapes Go.Joins

/-! ### Bulk -/
section
variable {H : Type}
theorem bulk_part {d : DataW H} {l : List (DataW H)} (h : d ∈ l) : Rows.uptoBulk d ≤ Rows.uptoBulkAll l := by
  induction l with
  | nil => cases h
  | cons x r ih =>
    simp only [Rows.uptoBulkAll]
    cases List.mem_cons.1 h with
    | inl e => subst e; omega
    | inr e => have := ih e; omega
theorem bulk_small {ds : List (DataW H)} (hk : Rows.uptoSmall H ds = true) {d : DataW H} (h : d ∈ ds) : Rows.uptoBulk d ≤ 1048576 := by
  have h1 : Rows.uptoBulkAll ds ≤ 1048576 := of_decide_eq_true hk
  have := bulk_part h
  omega
end

/-- Data of type t lie as L says. -/
def Opens {D : Type} (P : Program) (L : Lay D) (t : TypeId) : Prop :=
  ∀ (H : Type) (enc : TypeId × Value → H) (w : World) (base : Nat) (spare : Nat → Bool) (held : Bool) (fuel : Nat) (cs : List Value) (x : DataW H × List MemPlace),
    DataW.trod enc P w base spare held fuel t cs = some x → Rows.uptoBulk x.1 ≤ 1048576 → ∃ d, L.cells w d cs

theorem add_off (b o n : Nat) : (⟨b, o, none⟩ : Addr).add n = ⟨b, o + n, none⟩ := by
  unfold Addr.add
  split
  · rename_i h; subst h; rfl
  · rfl

theorem rows_of {D : Type} {L : Lay D} {w : World} {a : Addr} {len : Nat} (h : ∀ i, i < len → ∃ d cs, L.cells w d cs ∧ ∀ j u, cs[j]? = some u → w.cell? ((a.add (i * L.sz)).add j) = some u) :
    ∀ k, k ≤ len → ∃ l : List D, l.length = k ∧ ∀ i d, l[i]? = some d → ∃ cs, L.cells w d cs ∧ ∀ j u, cs[j]? = some u → w.cell? ((a.add (i * L.sz)).add j) = some u
  | 0, _ => ⟨[], rfl, fun i d hi => by simp at hi⟩
  | k + 1, hk => by
    obtain ⟨l, hl, hall⟩ := rows_of h k (by omega)
    obtain ⟨d, cs, hc, hcell⟩ := h k (by omega)
    refine ⟨l ++ [d], by simp [hl], fun i x hi => ?_⟩
    by_cases hik : i < l.length
    · rw [List.getElem?_append_left hik] at hi
      exact hall i x hi
    · rw [List.getElem?_append_right (by omega)] at hi
      have e1 : i - l.length = 0 := by
        have := (List.getElem?_eq_some_iff.1 hi).1
        simp at this; omega
      rw [e1] at hi
      simp at hi
      subst hi
      obtain rfl : i = k := by omega
      exact ⟨cs, hc, hcell⟩

theorem Opens.slice {D : Type} {P : Program} {L : Lay D} {t e : TypeId} (ht : P.underlying t = some (.slice e)) (hC : P.cellsOf e = L.sz) (hs : 0 < L.sz) (h : Opens P L e) : Opens P (slL L) t := by
  intro H enc w base spare held fuel cs x hx hb
  rcases open_slice ht hx with ⟨rfl, rfl⟩ | ⟨a, len, cap, m, n, D', Pl, rfl, hbb, hl, hm, hmm, rfl, hi⟩
  · exact ⟨[], _, rfl, Sl.nil 0 (by unfold maxLen; omega) none⟩
  · have hm' : len ≤ m := by rw [hmm]; split <;> omega
    have hbA : Rows.uptoBulkAll ((List.range len).map D') ≤ 1048576 := by
      simp only [Rows.uptoBulk] at hb
      omega
    have each : ∀ i, i < len → ∃ d cs, L.cells w d cs ∧ ∀ j u, cs[j]? = some u → w.cell? ((a.add (i * L.sz)).add j) = some u := fun i hil => by
      obtain ⟨cs', hc, ht'⟩ := hi i (by omega)
      rw [hC] at hc
      obtain ⟨_, hcl, hat⟩ := World.cells?_some hc
      have hbi : Rows.uptoBulk (D' i) ≤ 1048576 := by
        have := bulk_part (d := D' i) (l := (List.range len).map D') (List.mem_map.2 ⟨i, List.mem_range.2 hil, rfl⟩)
        omega
      obtain ⟨d, hd⟩ := h H enc w base spare held n cs' _ ht' hbi
      refine ⟨d, cs', hd, fun j u hj => ?_⟩
      have hjl : j < L.sz := by have := (List.getElem?_eq_some_iff.1 hj).1; omega
      rw [hat j hjl, hj]
    by_cases h0 : len = 0
    · subst h0
      exact ⟨[], _, rfl, Sl.nil cap hm (some a)⟩
    · obtain ⟨b, o, spot⟩ := a
      have hspot : spot = none := by
        obtain ⟨d, cs', hd, hcell⟩ := each 0 (by omega)
        have hl0 := L.len hd
        have h1 := hcell 0 _ (List.getElem?_eq_getElem (by omega))
        simpa [Addr.add] using World.cell?_spot h1
      subst hspot
      obtain ⟨l, hll, hall⟩ := rows_of each len (Nat.le_refl _)
      subst hll
      refine ⟨l, _, rfl, _, cap, rfl, hl, hm, fun i d hid => ?_⟩
      obtain ⟨cs', hd, hcell⟩ := hall i d hid
      refine ⟨b, o, cs', rfl, hd, fun j u hj => ?_⟩
      have := hcell j u hj
      rw [add_off, add_off, Nat.add_assoc] at this
      exact this

theorem field_at {H : Type} {enc : TypeId × Value → H} {P : Program} {w : World} {base : Nat} {spare : Nat → Bool} {held : Bool} {t : TypeId} {fs : Array Field} {fuel : Nat} {cs : List Value} {x : DataW H × List MemPlace}
    (ht : P.underlying t = some (.struct fs)) (h : DataW.trod enc P w base spare held fuel t cs = some x) (hb : Rows.uptoBulk x.1 ≤ 1048576) :
    cs.length = P.cellsOf t ∧ ∀ {D : Type} {L : Lay D} (i : Nat) (f : Field) (k : Nat), fs[i]? = some f → P.cellsOf f.type = k → Opens P L f.type → ∃ d, L.cells w d ((cs.drop f.offset).take k) := by
  obtain ⟨xs, n, _, rfl, hl, hxl, hf⟩ := DataW.trod_struct ht h
  refine ⟨hl, fun i f k hi hk ho => ?_⟩
  have h1 := hf i f hi
  have hil : i < xs.length := by have := (Array.getElem?_eq_some_iff.1 hi).1; omega
  obtain ⟨y, hy⟩ : ∃ y, xs[i]? = some y := ⟨_, List.getElem?_eq_getElem hil⟩
  rw [hy, hk] at h1
  refine ho H enc w base spare held n _ y h1 ?_
  have := bulk_part (d := y.1) (l := xs.map (·.1)) (List.mem_map.2 ⟨y, List.mem_of_getElem? hy, rfl⟩)
  simp only [Rows.uptoBulk] at hb
  omega

theorem opens_int {P : Program} {t : TypeId} (ht : P.underlying t = some (.int .i64)) : Opens P intL t := by
  intro H enc w base spare held fuel cs x hx hb
  obtain ⟨n, rfl, rfl, hw⟩ := DataW.trod_int ht hx
  refine ⟨n, rfl, ?_⟩
  have e1 : IntKind.i64.min = -9223372036854775808 := rfl
  have e2 : IntKind.i64.max = 9223372036854775807 := rfl
  simp [Lit.wf, e1, e2] at hw
  exact hw
theorem opens_str {P : Program} {t : TypeId} (ht : P.underlying t = some .string) : Opens P strL t := by
  intro H enc w base spare held fuel cs x hx hb
  obtain ⟨s, rfl, rfl, hw⟩ := DataW.trod_string ht hx
  refine ⟨s, rfl, ?_⟩
  simp only [Rows.uptoBulk, Array.length_toList] at hb
  show s.data.size ≤ 1048576
  omega
def boolL : Lay Bool := flatL 1 (fun _ => True) (fun b => [.bool b]) (fun _ => rfl)
theorem opens_bool {P : Program} {t : TypeId} (ht : P.underlying t = some .bool) : Opens P boolL t := by
  intro H enc w base spare held fuel cs x hx hb
  obtain ⟨b, rfl, rfl⟩ := DataW.trod_bool ht hx
  exact ⟨b, rfl, trivial⟩
end Go.Proofs.YtpfpgmfdcafpnaaGreatDoor

/- Plain: the program's structs, read as data, lie as the layouts say (this program's numbers of types). -/
namespace Go.Proofs.YtpfpgmfdcafpnaaGreatDoor
open Go Go.RowKit Go.Deep Go.ChangeShapes Go.WideShapes

theorem oInt : Opens Tryz.prog intL 3 := opens_int Tryz.underlying3
theorem oStr : Opens Tryz.prog strL 9 := opens_str Tryz.underlying9
theorem oBool : Opens Tryz.prog boolL 4 := opens_bool Tryz.underlying4

theorem o_val : Opens Tryz.prog valL 60 := by
  intro H enc w base spare held fuel cs x hx hb
  obtain ⟨hl, hf⟩ := field_at Tryz.underlying60 hx hb
  rw [show Tryz.prog.cellsOf 60 = 3 from by kernel_rfl] at hl
  match cs, hl with
  | [c0, c1, c2], _ =>
    obtain ⟨a0, e0, h0⟩ := hf (L := intL) 0 _ 1 rfl (by kernel_rfl) oInt
    have e0 : [c0] = [.int .i64 a0] := e0
    injection e0 with e0 _
    subst e0
    obtain ⟨a1, e1, h1⟩ := hf (L := intL) 1 _ 1 rfl (by kernel_rfl) oInt
    have e1 : [c1] = [.int .i64 a1] := e1
    injection e1 with e1 _
    subst e1
    obtain ⟨a2, e2, h2⟩ := hf (L := strL) 2 _ 1 rfl (by kernel_rfl) oStr
    have e2 : [c2] = [.string a2] := e2
    injection e2 with e2 _
    subst e2
    exact ⟨⟨a0, a1, a2⟩, rfl, h0, h1, h2⟩
theorem o_prp : Opens Tryz.prog prpL 87 := by
  intro H enc w base spare held fuel cs x hx hb
  obtain ⟨hl, hf⟩ := field_at Tryz.underlying87 hx hb
  rw [show Tryz.prog.cellsOf 87 = 4 from by kernel_rfl] at hl
  match cs, hl with
  | [c0, c1, c2, c3], _ =>
    obtain ⟨a0, e0, h0⟩ := hf (L := strL) 0 _ 1 rfl (by kernel_rfl) oStr
    have e0 : [c0] = [.string a0] := e0
    injection e0 with e0 _
    subst e0
    obtain ⟨v, e1, h1⟩ := hf (L := valL) 1 _ 3 rfl (by kernel_rfl) o_val
    have e1 : [c1, c2, c3] = [.int .i64 v.ty, .int .i64 v.n, .string v.s] := e1
    injection e1 with e1 e2
    injection e2 with e2 e3
    injection e3 with e3 _
    subst e1; subst e2; subst e3
    exact ⟨⟨a0, v⟩, rfl, h0, h1⟩
theorem o_fld : Opens Tryz.prog fldL 64 := by
  intro H enc w base spare held fuel cs x hx hb
  obtain ⟨hl, hf⟩ := field_at Tryz.underlying64 hx hb
  rw [show Tryz.prog.cellsOf 64 = 4 from by kernel_rfl] at hl
  match cs, hl with
  | [c0, c1, c2, c3], _ =>
    obtain ⟨a0, e0, h0⟩ := hf (L := strL) 0 _ 1 rfl (by kernel_rfl) oStr
    have e0 : [c0] = [.string a0] := e0
    injection e0 with e0 _
    subst e0
    obtain ⟨a1, e1, h1⟩ := hf (L := intL) 1 _ 1 rfl (by kernel_rfl) oInt
    have e1 : [c1] = [.int .i64 a1] := e1
    injection e1 with e1 _
    subst e1
    obtain ⟨a2, e2, h2⟩ := hf (L := boolL) 2 _ 1 rfl (by kernel_rfl) oBool
    have e2 : [c2] = [.bool a2] := e2
    injection e2 with e2 _
    subst e2
    obtain ⟨a3, e3, h3⟩ := hf (L := boolL) 3 _ 1 rfl (by kernel_rfl) oBool
    have e3 : [c3] = [.bool a3] := e3
    injection e3 with e3 _
    subst e3
    exact ⟨⟨a0, a1, a2, a3⟩, rfl, h0, h1⟩
theorem o_bnd : Opens Tryz.prog bndL 68 := by
  intro H enc w base spare held fuel cs x hx hb
  obtain ⟨hl, hf⟩ := field_at Tryz.underlying68 hx hb
  rw [show Tryz.prog.cellsOf 68 = 5 from by kernel_rfl] at hl
  match cs, hl with
  | [c0, c1, c2, c3, c4], _ =>
    obtain ⟨a0, e0, h0⟩ := hf (L := strL) 0 _ 1 rfl (by kernel_rfl) oStr
    have e0 : [c0] = [.string a0] := e0
    injection e0 with e0 _
    subst e0
    obtain ⟨a1, e1, h1⟩ := hf (L := strL) 1 _ 1 rfl (by kernel_rfl) oStr
    have e1 : [c1] = [.string a1] := e1
    injection e1 with e1 _
    subst e1
    obtain ⟨a2, e2, h2⟩ := hf (L := strL) 2 _ 1 rfl (by kernel_rfl) oStr
    have e2 : [c2] = [.string a2] := e2
    injection e2 with e2 _
    subst e2
    obtain ⟨a3, e3, h3⟩ := hf (L := intL) 3 _ 1 rfl (by kernel_rfl) oInt
    have e3 : [c3] = [.int .i64 a3] := e3
    injection e3 with e3 _
    subst e3
    obtain ⟨a4, e4, h4⟩ := hf (L := intL) 4 _ 1 rfl (by kernel_rfl) oInt
    have e4 : [c4] = [.int .i64 a4] := e4
    injection e4 with e4 _
    subst e4
    exact ⟨⟨a0, a1, a2, a3, a4⟩, rfl, h0, h1, h2, h3, h4⟩
theorem o_tie : Opens Tryz.prog tieL 72 := by
  intro H enc w base spare held fuel cs x hx hb
  obtain ⟨hl, hf⟩ := field_at Tryz.underlying72 hx hb
  rw [show Tryz.prog.cellsOf 72 = 3 from by kernel_rfl] at hl
  match cs, hl with
  | [c0, c1, c2], _ =>
    obtain ⟨a0, e0, h0⟩ := hf (L := strL) 0 _ 1 rfl (by kernel_rfl) oStr
    have e0 : [c0] = [.string a0] := e0
    injection e0 with e0 _
    subst e0
    obtain ⟨a1, e1, h1⟩ := hf (L := intL) 1 _ 1 rfl (by kernel_rfl) oInt
    have e1 : [c1] = [.int .i64 a1] := e1
    injection e1 with e1 _
    subst e1
    obtain ⟨a2, e2, h2⟩ := hf (L := intL) 2 _ 1 rfl (by kernel_rfl) oInt
    have e2 : [c2] = [.int .i64 a2] := e2
    injection e2 with e2 _
    subst e2
    exact ⟨⟨a0, a1, a2⟩, rfl, h0, h1, h2⟩
theorem o_rec : Opens Tryz.prog (slL prpL) 31 := Opens.slice Tryz.underlying31 (by kernel_rfl) (by decide) o_prp
theorem o_strs : Opens Tryz.prog (slL strL) 78 := Opens.slice Tryz.underlying78 (by kernel_rfl) (by decide) oStr
theorem o_flds : Opens Tryz.prog (slL fldL) 56 := Opens.slice Tryz.underlying56 (by kernel_rfl) (by decide) o_fld
theorem o_bnds : Opens Tryz.prog (slL bndL) 23 := Opens.slice Tryz.underlying23 (by kernel_rfl) (by decide) o_bnd
theorem o_ties : Opens Tryz.prog (slL tieL) 27 := Opens.slice Tryz.underlying27 (by kernel_rfl) (by decide) o_tie
theorem o_nod : Opens Tryz.prog nodL 33 := by
  intro H enc w base spare held fuel cs x hx hb
  obtain ⟨hl, hf⟩ := field_at Tryz.underlying33 hx hb
  rw [show Tryz.prog.cellsOf 33 = 3 from by kernel_rfl] at hl
  match cs, hl with
  | [c0, c1, c2], _ =>
    obtain ⟨a0, e0, h0⟩ := hf (L := intL) 0 _ 1 rfl (by kernel_rfl) oInt
    have e0 : [c0] = [.int .i64 a0] := e0
    injection e0 with e0 _
    subst e0
    obtain ⟨a1, e1, h1⟩ := hf (L := strL) 1 _ 1 rfl (by kernel_rfl) oStr
    have e1 : [c1] = [.string a1] := e1
    injection e1 with e1 _
    subst e1
    obtain ⟨a2, v2, e2, h2⟩ := hf (L := slL prpL) 2 _ 1 rfl (by kernel_rfl) o_rec
    have e2 : [c2] = [v2] := e2
    injection e2 with e2 _
    subst e2
    exact ⟨⟨a0, a1, a2⟩, c2, rfl, h0, h1, h2⟩
theorem o_nods : Opens Tryz.prog (slL nodL) 26 := Opens.slice Tryz.underlying26 (by kernel_rfl) (by decide) o_nod
theorem o_knd : Opens Tryz.prog kndL 80 := by
  intro H enc w base spare held fuel cs x hx hb
  obtain ⟨hl, hf⟩ := field_at Tryz.underlying80 hx hb
  rw [show Tryz.prog.cellsOf 80 = 3 from by kernel_rfl] at hl
  match cs, hl with
  | [c0, c1, c2], _ =>
    obtain ⟨a0, e0, h0⟩ := hf (L := strL) 0 _ 1 rfl (by kernel_rfl) oStr
    have e0 : [c0] = [.string a0] := e0
    injection e0 with e0 _
    subst e0
    obtain ⟨a1, v1, e1, h1⟩ := hf (L := slL strL) 1 _ 1 rfl (by kernel_rfl) o_strs
    have e1 : [c1] = [v1] := e1
    injection e1 with e1 _
    subst e1
    obtain ⟨a2, v2, e2, h2⟩ := hf (L := slL fldL) 2 _ 1 rfl (by kernel_rfl) o_flds
    have e2 : [c2] = [v2] := e2
    injection e2 with e2 _
    subst e2
    exact ⟨⟨a0, a1, a2⟩, c1, c2, rfl, h0, h1, h2⟩
theorem o_knds : Opens Tryz.prog (slL kndL) 22 := Opens.slice Tryz.underlying22 (by kernel_rfl) (by decide) o_knd

/-! ### Arguments -/
/-- A one-cell argument. -/
theorem arg_one {D : Type} {L : Lay D} {t : TypeId} {H : Type} {enc : TypeId × Value → H} {w : World} {base : Nat} {spare : Nat → Bool} {held : Bool} {v : Value} {d : DataW H} {p : List MemPlace}
    (ho : Opens Tryz.prog L t) (h : DataW.Trod enc Tryz.prog w base spare held t v d p) (hb : Rows.uptoBulk d ≤ 1048576) : ∃ x, L.cells w x v.cells.toList := by
  obtain ⟨fuel, hf⟩ := h
  exact ho H enc w base spare held fuel _ _ hf hb
set_option maxRecDepth 100000 in
/-- A struct of two slices. -/
theorem arg_two {D E : Type} {L : Lay D} {M : Lay E} {t : TypeId} {f0 f1 : Field} {H : Type} {enc : TypeId × Value → H} {w : World} {base b0 : Nat} {r : Reach} {spare : Nat → Bool} {held : Bool} {v : Value} {d : DataW H} {p : List MemPlace}
    (hs : Tryz.prog.underlying t = some (.struct #[f0, f1])) (hone : oneCellFields Tryz.prog #[f0, f1] = true) (hC : Tryz.prog.cellsOf t = 2) (h0 : Opens Tryz.prog (slL L) f0.type) (h1 : Opens Tryz.prog (slL M) f1.type)
    (hv : Value.okWide Tryz.prog w r b0 t v) (h : DataW.Trod enc Tryz.prog w base spare held t v d p) (hb : Rows.uptoBulk d ≤ 1048576) : ∃ v0 v1 l m, v = .agg #[v0, v1] ∧ Sl L w v0 l ∧ Sl M w v1 m := by
  obtain ⟨v0, v1, y0, y1, n, rfl, rfl, rfl, g0, g1⟩ := Joins.open_agg2 hs hone hC hv h
  simp only [Rows.uptoBulk, Rows.uptoBulkAll] at hb
  obtain ⟨l, v0', e0, k0⟩ := h0 H enc w base spare held n _ _ g0 (by omega)
  obtain ⟨m, v1', e1, k1⟩ := h1 H enc w base spare held n _ _ g1 (by omega)
  injection e0 with e0 _
  injection e1 with e1 _
  subst e0; subst e1
  exact ⟨v0, v1, l, m, rfl, k0, k1⟩
set_option maxRecDepth 100000 in
theorem arg_graph {H : Type} {enc : TypeId × Value → H} {w : World} {base b0 : Nat} {r : Reach} {spare : Nat → Bool} {held : Bool} {v : Value} {d : DataW H} {p : List MemPlace}
    (hv : Value.okWide Tryz.prog w r b0 29 v) (h : DataW.Trod enc Tryz.prog w base spare held 29 v d p) (hb : Rows.uptoBulk d ≤ 1048576) : ∃ v0 v1 g, v = .agg #[v0, v1] ∧ GrfR w v0 v1 g := by
  obtain ⟨v0, v1, l, m, rfl, h0, h1⟩ := arg_two Tryz.underlying29 (by kernel_rfl) (by kernel_rfl) o_nods o_ties hv h hb
  exact ⟨v0, v1, ⟨l, m⟩, rfl, h0, h1⟩
set_option maxRecDepth 100000 in
theorem arg_schema {H : Type} {enc : TypeId × Value → H} {w : World} {base b0 : Nat} {r : Reach} {spare : Nat → Bool} {held : Bool} {v : Value} {d : DataW H} {p : List MemPlace}
    (hv : Value.okWide Tryz.prog w r b0 25 v) (h : DataW.Trod enc Tryz.prog w base spare held 25 v d p) (hb : Rows.uptoBulk d ≤ 1048576) : ∃ v0 v1 g, v = .agg #[v0, v1] ∧ ScmR w v0 v1 g := by
  obtain ⟨v0, v1, l, m, rfl, h0, h1⟩ := arg_two Tryz.underlying25 (by kernel_rfl) (by kernel_rfl) o_knds o_bnds hv h hb
  exact ⟨v0, v1, ⟨l, m⟩, rfl, h0, h1⟩
end Go.Proofs.YtpfpgmfdcafpnaaGreatDoor

/- Plain: arguments that are one cell: texts, numbers, bools, slices. -/
namespace Go.Proofs.YtpfpgmfdcafpnaaGreatDoor
open Go Go.RowKit Go.Deep Go.ChangeShapes Go.WideShapes

set_option maxRecDepth 100000 in
theorem arg_str {H : Type} {enc : TypeId × Value → H} {w : World} {base b0 : Nat} {r : Reach} {spare : Nat → Bool} {held : Bool} {v : Value} {d : DataW H} {p : List MemPlace}
    (hv : Value.okWide Tryz.prog w r b0 9 v) (h : DataW.Trod enc Tryz.prog w base spare held 9 v d p) (hb : Rows.uptoBulk d ≤ 1048576) : ∃ s, v = .string s ∧ Sm s := by
  obtain ⟨s, rfl, rfl, _, _⟩ := ChangeMaps.open_string Tryz.underlying9 hv h
  refine ⟨s, rfl, ?_⟩
  have hb' : s.data.toList.length + 1 ≤ 1048576 := hb
  clear hb
  unfold Sm
  have : s.data.toList.length = s.size := Array.length_toList
  omega
set_option maxRecDepth 100000 in
theorem arg_int {H : Type} {enc : TypeId × Value → H} {w : World} {base b0 : Nat} {r : Reach} {spare : Nat → Bool} {held : Bool} {v : Value} {d : DataW H} {p : List MemPlace}
    (hv : Value.okWide Tryz.prog w r b0 3 v) (h : DataW.Trod enc Tryz.prog w base spare held 3 v d p) : ∃ n, v = .int .i64 n ∧ I64 n := by
  obtain ⟨n, rfl, _, _, hn⟩ := open_int Tryz.underlying3 hv h
  refine ⟨n, rfl, ?_⟩
  have := hn
  simp only [Lit.wf, Bool.and_eq_true, decide_eq_true_eq] at this
  exact this
set_option maxRecDepth 100000 in
theorem arg_bool {H : Type} {enc : TypeId × Value → H} {w : World} {base b0 : Nat} {r : Reach} {spare : Nat → Bool} {held : Bool} {v : Value} {d : DataW H} {p : List MemPlace}
    (hv : Value.okWide Tryz.prog w r b0 4 v) (h : DataW.Trod enc Tryz.prog w base spare held 4 v d p) : ∃ b, v = .bool b := by
  obtain ⟨b, rfl, _, _⟩ := open_bool Tryz.underlying4 hv h
  exact ⟨b, rfl⟩
set_option maxRecDepth 100000 in
theorem arg_sl {D : Type} {L : Lay D} {t e : TypeId} {H : Type} {enc : TypeId × Value → H} {w : World} {base b0 : Nat} {r : Reach} {spare : Nat → Bool} {held : Bool} {v : Value} {d : DataW H} {p : List MemPlace}
    (ht : Tryz.prog.underlying t = some (.slice e)) (ho : Opens Tryz.prog (slL L) t) (hv : Value.okWide Tryz.prog w r b0 t v) (h : DataW.Trod enc Tryz.prog w base spare held t v d p) (hb : Rows.uptoBulk d ≤ 1048576) : ∃ l, Sl L w v l := by
  obtain ⟨l, v', e1, h1⟩ := arg_one ho h hb
  obtain ⟨a, n, c, rfl⟩ := okWide_slice ht hv
  simp only [Value.cells, List.cons.injEq, and_true] at e1
  subst e1
  exact ⟨l, h1⟩
end Go.Proofs.YtpfpgmfdcafpnaaGreatDoor

/- Plain: a node as an argument. -/
namespace Go.Proofs.YtpfpgmfdcafpnaaGreatDoor
open Go Go.RowKit Go.Deep Go.ChangeShapes Go.WideShapes Go.Joins

set_option maxRecDepth 100000 in
theorem arg_node {H : Type} {enc : TypeId × Value → H} {w : World} {base b0 : Nat} {r : Reach} {spare : Nat → Bool} {held : Bool} {v : Value} {d : DataW H} {p : List MemPlace}
    (hv : Value.okWide Tryz.prog w r b0 33 v) (h : DataW.Trod enc Tryz.prog w base spare held 33 v d p) (hb : Rows.uptoBulk d ≤ 1048576) :
    ∃ (u : Value) (n : Nod), v = .agg #[.int .i64 n.id, .string n.kind, u] ∧ I64 n.id ∧ Sm n.kind ∧ Sl prpL w u n.props := by
  obtain ⟨n, u, e, h1, h2, h3⟩ := arg_one o_nod h hb
  obtain ⟨cs, rfl, _⟩ := okWide_struct Tryz.underlying33 hv
  have e' : cs.toList = #[.int .i64 n.id, .string n.kind, u].toList := e
  exact ⟨u, n, by rw [Array.toList_inj.1 e'], h1, h2, h3⟩
end Go.Proofs.YtpfpgmfdcafpnaaGreatDoor
