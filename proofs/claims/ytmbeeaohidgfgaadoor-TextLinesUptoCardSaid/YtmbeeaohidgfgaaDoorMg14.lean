/- Parts: GrB. -/
import Derived.Test.YtmbeeaohidgfgaaDoorMg13
/- Contract: what graph.Check of the program answers. -/
namespace Go.Proofs.YtmbeeaohidgfgaaDoor
open Go.RowKit

/-- The one ahead of place k. -/
def prev {D : Type} (l : List D) : Nat → Option D
  | 0 => none
  | k + 1 => l[k]?
theorem drop_cons {D : Type} {l : List D} {k : Nat} {d : D} (h : l[k]? = some d) : l.drop k = d :: l.drop (k + 1) := by
  obtain ⟨hk, rfl⟩ := List.getElem?_eq_some_iff.1 h
  exact List.drop_eq_getElem_cons hk

def nodsE : Option Nod → List Nod → Int
  | _, [] => 0
  | p, n :: r => if idB n.id = false then 1 else if (match p with | some q => decide (n.id ≤ q.id) | none => false) then 7 else if nodE n = 0 then nodsE (some n) r else nodE n
def tiesE : Option Tie → List Tie → Int
  | _, [] => 0
  | p, t :: r => if tieE t = 0 then (if (match p with | some q => decide (0 ≤ tieO q t) | none => false) then 7 else tiesE (some t) r) else tieE t
/-- The fault of a graph. -/
def grfE (g : Grf) : Int :=
  if 60 < g.nodes.length ∨ 120 < g.ties.length then 4 else if nodsE none g.nodes = 0 then tiesE none g.ties else nodsE none g.nodes

theorem cell_box3 (w : World) (a b c : Value) (t : TypeId) : (w.alloc (.cells #[a, b, c] t)).cell? ⟨w.heap.size, 0, none⟩ = some a ∧ (w.alloc (.cells #[a, b, c] t)).cell? ⟨w.heap.size, 1, none⟩ = some b ∧
    (w.alloc (.cells #[a, b, c] t)).cell? ⟨w.heap.size, 2, none⟩ = some c :=
  ⟨by rw [World.cell?_alloc_at _ _ _ _ rfl]; rfl, by rw [World.cell?_alloc_at _ _ _ _ rfl]; rfl, by rw [World.cell?_alloc_at _ _ _ _ rfl]; rfl⟩
theorem cell_box2 (w : World) (a b : Value) (t : TypeId) : (w.alloc (.cells #[a, b] t)).cell? ⟨w.heap.size, 0, none⟩ = some a ∧ (w.alloc (.cells #[a, b] t)).cell? ⟨w.heap.size, 1, none⟩ = some b :=
  ⟨by rw [World.cell?_alloc_at _ _ _ _ rfl]; rfl, by rw [World.cell?_alloc_at _ _ _ _ rfl]; rfl⟩

set_option maxHeartbeats 4000000 in
theorem grfCheck_any (g : Grf) (vn vt : Value) (w : World) (hg : GrfR w vn vt g) :
    Calls Tryd.prog 8 #[.agg #[vn, vt]] w fun e w' => e = .returned (errV (grfE g)) ∧ Below w.heap.size w w' := by
  obtain ⟨hn, ht⟩ := hg
  obtain ⟨A, c, rfl, hlc, hcm⟩ := hn.form
  obtain ⟨A', c', rfl, hlc', hcm'⟩ := ht.form
  unfold maxLen at hcm hcm'
  have HF : Hid (grfE g = if 60 < g.nodes.length ∨ 120 < g.ties.length then 4 else if nodsE none g.nodes = 0 then tiesE none g.ties else nodsE none g.nodes) := rfl
  obtain ⟨q0, q1⟩ := cell_box2 w (.slice A g.nodes.length c) (.slice A' g.ties.length c') 25
  have hb0 : Below w.heap.size w (w.alloc (.cells #[.slice A g.nodes.length c, .slice A' g.ties.length c'] 25)) := (Below.refl _ _).alloc (Nat.le_refl _) _
  by_cases h1 : 60 < g.nodes.length
  · have HE : Hid (errV (grfE g) = .iface 59 (.int .i64 4)) := by rw [HF.out, if_pos (Or.inl h1)]; rfl
    have h1' : (60 : Int) < (g.nodes.length : Int) := by omega
    clear hn ht
    go_enter Tryd.func8, Tryd.ntmps8
    go_wp2_with fail
    go_ret
    exact ⟨by rw [HE.out]; rfl, hb0⟩
  have h1' : decide ((60 : Int) < (g.nodes.length : Int)) = false := by simp; omega
  have h1'' : (g.nodes.length : Int) ≤ 60 := by omega
  by_cases h2 : 120 < g.ties.length
  · have HE : Hid (errV (grfE g) = .iface 59 (.int .i64 4)) := by rw [HF.out, if_pos (Or.inr h2)]; rfl
    have h2' : (120 : Int) < (g.ties.length : Int) := by omega
    clear hn ht
    go_enter Tryd.func8, Tryd.ntmps8
    go_wp2_with fail
    go_ret
    exact ⟨by rw [HE.out]; rfl, hb0⟩
  have h2' : decide ((120 : Int) < (g.ties.length : Int)) = false := by simp; omega
  have h2'' : (g.ties.length : Int) ≤ 120 := by omega
  have HG : Hid (grfE g = if nodsE none g.nodes = 0 then tiesE none g.ties else nodsE none g.nodes) := by rw [HF.out, if_neg (by omega)]; rfl
  clear HF
  have H1 := Lib.hid h1
  have H2 := Lib.hid h2
  clear h1 h2
  have hw0 : w.heap.size < (w.alloc (.cells #[.slice A g.nodes.length c, .slice A' g.ties.length c'] 25)).heap.size := by simp
  go_enter Tryd.func8, Tryd.ntmps8
  go_wp2_with fail
  generalize hW : w.alloc (.cells #[.slice A g.nodes.length c, .slice A' g.ties.length c'] 25) = W at q0 q1 hb0 hw0
  clear hW
  go_loopw [23] (fun i wr => ∃ k : Nat, k ≤ g.nodes.length ∧ i = .int .i64 k ∧ Below W.heap.size W wr ∧ Hid (nodsE none g.nodes = nodsE (prev g.nodes k) (g.nodes.drop k))) (fun i _ => g.nodes.length - (intOf i).toNat)
  case atStart => exact ⟨0, Nat.zero_le _, rfl, Below.refl _ _, rfl⟩
  case round =>
    obtain ⟨k, hk, rfl, hb, HA⟩ := hrel
    have hbw : Below w.heap.size w wr := hb0.trans (hb.mono hb0.size)
    have r0 : wr.cell? ⟨w.heap.size, 0, none⟩ = some (.slice A g.nodes.length c) := cell_below hb q0
    have r1 : wr.cell? ⟨w.heap.size, 1, none⟩ = some (.slice A' g.ties.length c') := cell_below hb q1
    by_cases hlt : k < g.nodes.length
    · obtain ⟨d, hd⟩ : ∃ d, g.nodes[k]? = some d := ⟨_, List.getElem?_eq_getElem hlt⟩
      obtain ⟨b, o, rfl, hall⟩ := nod_all (hn.below hbw) (by omega)
      obtain ⟨u, hid, hkd, hpr, x0, x1, x2⟩ := hall _ _ hd
      obtain ⟨Ar, cr, rfl, _, _⟩ := hpr.form
      have hwr : w.heap.size < wr.heap.size := by have := hb.size; omega
      have hbl : b < wr.heap.size := World.block_lt_of_cell? _ _ x0
      have HS : Hid (nodsE none g.nodes = nodsE (prev g.nodes k) (d :: g.nodes.drop (k + 1))) := by rw [HA.out, drop_cons hd]; rfl
      have hbx : Below W.heap.size W (wr.alloc (.cells #[.int .i64 d.id, .string d.kind, .slice Ar d.props.length cr] 49)) := hb.alloc hb.size _
      clear HA
      cases h3 : idB d.id with
      | false =>
        have HE : Hid (errV (grfE g) = .iface 59 (.int .i64 1)) := by
          have : nodsE none g.nodes = 1 := by rw [HS.out]; simp only [nodsE, h3, if_true]
          rw [HG.out, if_neg (by rw [this]; decide), this]; rfl
        clear hall hd hn ht
        go_wp2_with (go_at_call 17; refine (id_b _ _).mono ?_; rintro e w' ⟨rfl, rfl⟩)
        go_ret
        exact ⟨by rw [HE.out]; rfl, hb0.trans (hbx.mono hb0.size)⟩
      | true =>
        rcases Nat.eq_zero_or_pos k with hk0 | hk0
        · have hkd0 : decide ((0 : Int) < (k : Int)) = false := by simp; omega
          have hkd1 : (k : Int) ≤ 0 := by omega
          have hkd2 : decide (0 < k) = false := by simp; omega
          have HS' : Hid (nodsE none g.nodes = if nodE d = 0 then nodsE (some d) (g.nodes.drop (k + 1)) else nodE d) := by
            rw [HS.out, hk0]; simp only [nodsE, prev, h3, Bool.true_eq_false, if_false]; rfl
          have HP : Hid (prev g.nodes (k + 1) = some d) := hd
          clear hall hd hk0 HS
          by_cases h4 : nodE d = 0
          · have hE : errV (nodE d) = .nilIface := errV_zero h4
            have HT : Hid (nodsE none g.nodes = nodsE (prev g.nodes (k + 1)) (g.nodes.drop (k + 1))) := by rw [HS'.out, if_pos h4, HP.out]; rfl
            clear h4 HS'
            go_wp2_with (go_at_call 17; refine (id_b _ _).mono ?_; rintro e w' ⟨rfl, rfl⟩)
            go_quiet (fail)
            go_wp2_with fail
            refine (ofNode_any d _ _ hkd ((hpr.below ((Below.refl _ _).alloc (Nat.le_refl _) _)).below (below_drewN (Below.refl _ _) _))).mono ?_
            rintro e w1 ⟨rfl, hb1⟩
            rw [hE]
            have hb2 : Below W.heap.size W w1 := (below_drewN hbx nq).trans (hb1.mono (by have := hb.size; simp [World.drewN]; omega))
            go_wp2_with fail
            go_roundw
            case rel => exact ⟨k + 1, by omega, by go_num, hb2, HT⟩
            case measure => simp [intOf]; omega
          · have hE : errV (nodE d) = .iface 59 (.int .i64 (nodE d)) := errV_some h4
            have HE : Hid (errV (grfE g) = .iface 59 (.int .i64 (nodE d))) := by
              have : nodsE none g.nodes = nodE d := by rw [HS'.out, if_neg h4]
              rw [HG.out, if_neg (by rw [this]; exact h4), this]; exact hE
            clear h4 HS'
            go_wp2_with (go_at_call 17; refine (id_b _ _).mono ?_; rintro e w' ⟨rfl, rfl⟩)
            go_quiet (fail)
            go_wp2_with fail
            refine (ofNode_any d _ _ hkd ((hpr.below ((Below.refl _ _).alloc (Nat.le_refl _) _)).below (below_drewN (Below.refl _ _) _))).mono ?_
            rintro e w1 ⟨rfl, hb1⟩
            rw [hE]
            have hb2 : Below W.heap.size W w1 := (below_drewN hbx nq).trans (hb1.mono (by have := hb.size; simp [World.drewN]; omega))
            go_wp2_with fail
            go_ret
            exact ⟨by rw [HE.out]; rfl, hb0.trans (hb2.mono hb0.size)⟩
        · obtain ⟨p, hp⟩ : ∃ p, g.nodes[k - 1]? = some p := ⟨_, List.getElem?_eq_getElem (by omega)⟩
          obtain ⟨u', hid', _, _, y0, _, _⟩ := hall _ _ hp
          have hkd0 : (0 : Int) < (k : Int) := by omega
          have hkd1 : decide ((0 : Int) < (k : Int)) = true := by simp; omega
          have hkd2 : decide (0 < k) = true := by simp; omega
          have hpv : prev g.nodes k = some p := by
            obtain ⟨m, rfl⟩ : ∃ m, k = m + 1 := ⟨k - 1, by omega⟩
            exact hp
          have HP : Hid (prev g.nodes (k + 1) = some d) := hd
          by_cases h5 : d.id ≤ p.id
          · have h5' : decide (d.id ≤ p.id) = true := by simpa using h5
            have HE : Hid (errV (grfE g) = .iface 59 (.int .i64 7)) := by
              have : nodsE none g.nodes = 7 := by rw [HS.out, hpv]; simp only [nodsE, h3, h5', Bool.true_eq_false, if_false, if_true]
              rw [HG.out, if_neg (by rw [this]; decide), this]; rfl
            clear hall hd hp HS hpv hn ht
            go_wp2_with (go_at_call 17; refine (id_b _ _).mono ?_; rintro e w' ⟨rfl, rfl⟩)
            go_quiet (fail)
            go_wp2_with fail
            go_ret
            exact ⟨by rw [HE.out]; rfl, hb0.trans ((below_drewN hbx _).mono hb0.size)⟩
          · have h5' : decide (d.id ≤ p.id) = false := by simpa using h5
            have h5'' : p.id < d.id := by omega
            have HS' : Hid (nodsE none g.nodes = if nodE d = 0 then nodsE (some d) (g.nodes.drop (k + 1)) else nodE d) := by
              unfold Hid; rw [HS.out, hpv]; simp only [nodsE, h3, h5', Bool.true_eq_false, if_false, Bool.false_eq_true]
            clear hall hd hp HS hpv hn ht h5
            by_cases h4 : nodE d = 0
            · have hE : errV (nodE d) = .nilIface := errV_zero h4
              have HT : Hid (nodsE none g.nodes = nodsE (prev g.nodes (k + 1)) (g.nodes.drop (k + 1))) := by rw [HS'.out, if_pos h4, HP.out]; rfl
              clear h4 HS'
              go_wp2_with (go_at_call 17; refine (id_b _ _).mono ?_; rintro e w' ⟨rfl, rfl⟩)
              go_quiet (fail)
              go_wp2_with fail
              refine (ofNode_any d _ _ hkd ((hpr.below ((Below.refl _ _).alloc (Nat.le_refl _) _)).below (below_drewN (Below.refl _ _) _))).mono ?_
              rintro e w1 ⟨rfl, hb1⟩
              rw [hE]
              have hb2 : Below W.heap.size W w1 := (below_drewN hbx nq).trans (hb1.mono (by have := hb.size; simp [World.drewN]; omega))
              go_wp2_with fail
              go_roundw
              case rel => exact ⟨k + 1, by omega, by go_num, hb2, HT⟩
              case measure => simp [intOf]; omega
            · have hE : errV (nodE d) = .iface 59 (.int .i64 (nodE d)) := errV_some h4
              have HE : Hid (errV (grfE g) = .iface 59 (.int .i64 (nodE d))) := by
                have : nodsE none g.nodes = nodE d := by rw [HS'.out, if_neg h4]
                rw [HG.out, if_neg (by rw [this]; exact h4), this]; exact hE
              clear h4 HS'
              go_wp2_with (go_at_call 17; refine (id_b _ _).mono ?_; rintro e w' ⟨rfl, rfl⟩)
              go_quiet (fail)
              go_wp2_with fail
              refine (ofNode_any d _ _ hkd ((hpr.below ((Below.refl _ _).alloc (Nat.le_refl _) _)).below (below_drewN (Below.refl _ _) _))).mono ?_
              rintro e w1 ⟨rfl, hb1⟩
              rw [hE]
              have hb2 : Below W.heap.size W w1 := (below_drewN hbx nq).trans (hb1.mono (by have := hb.size; simp [World.drewN]; omega))
              go_wp2_with fail
              go_ret
              exact ⟨by rw [HE.out]; rfl, hb0.trans (hb2.mono hb0.size)⟩
    · have hkl : k = g.nodes.length := by omega
      subst hkl
      have HT : Hid (grfE g = tiesE none g.ties) := by
        have : nodsE none g.nodes = 0 := by rw [HA.out, List.drop_length]; rfl
        rw [HG.out, if_pos this]; rfl
      clear HG HA hn
      obtain ⟨wo, rfl⟩ : ∃ wo : World, wo = wr := ⟨_, rfl⟩
      go_wp2_with fail
      go_loopw [57] (fun i wr => ∃ k : Nat, k ≤ g.ties.length ∧ i = .int .i64 k ∧ Below wo.heap.size wo wr ∧ Hid (tiesE none g.ties = tiesE (prev g.ties k) (g.ties.drop k))) (fun i _ => g.ties.length - (intOf i).toNat)
      case atStart => exact ⟨0, Nat.zero_le _, rfl, Below.refl _ _, rfl⟩
      case round =>
        obtain ⟨k, hk, rfl, hc, HA⟩ := hrel
        have hbw' : Below w.heap.size w wr := hbw.trans (hc.mono hbw.size)
        have r0 : wr.cell? ⟨w.heap.size, 0, none⟩ = some (.slice A g.nodes.length c) := cell_below hc r0
        have r1 : wr.cell? ⟨w.heap.size, 1, none⟩ = some (.slice A' g.ties.length c') := cell_below hc r1
        by_cases hlt : k < g.ties.length
        · obtain ⟨d, hd⟩ : ∃ d, g.ties[k]? = some d := ⟨_, List.getElem?_eq_getElem hlt⟩
          obtain ⟨b, o, rfl, hall⟩ := tie_all (ht.below hbw') (by omega)
          obtain ⟨hok, x0, x1, x2⟩ := hall _ _ hd
          have HS : Hid (tiesE none g.ties = tiesE (prev g.ties k) (d :: g.ties.drop (k + 1))) := by rw [HA.out, drop_cons hd]; rfl
          have HP : Hid (prev g.ties (k + 1) = some d) := hd
          have hwr : w.heap.size < wr.heap.size := by have := hc.size; have := hb.size; omega
          have hbl : b < wr.heap.size := World.block_lt_of_cell? _ _ x0
          have hbx : Below w.heap.size w (wr.alloc (.cells #[.string d.bond, .int .i64 d.src, .int .i64 d.dst] 54)) := hbw'.alloc hbw'.size _
          have hbo : Below wo.heap.size wo (wr.alloc (.cells #[.string d.bond, .int .i64 d.src, .int .i64 d.dst] 54)) := hc.alloc hc.size _
          clear HA
          by_cases h4 : tieE d = 0
          · have hE : errV (tieE d) = .nilIface := errV_zero h4
            rcases Nat.eq_zero_or_pos k with hk0 | hk0
            · have hkd0 : decide ((0 : Int) < (k : Int)) = false := by simp; omega
              have hkd1 : (k : Int) ≤ 0 := by omega
              have hkd2 : decide (0 < k) = false := by simp; omega
              have HT : Hid (tiesE none g.ties = tiesE (prev g.ties (k + 1)) (g.ties.drop (k + 1))) := by
                unfold Hid; rw [HS.out, HP.out, hk0]; simp [tiesE, prev, h4]
              clear hall hd hk0 HS h4 ht
              go_wp2_with fail
              refine (ofTie_any d _ hok.1).mono ?_
              rintro e w1 ⟨rfl, hb1⟩
              have hb2 : Below wo.heap.size wo w1 := hbo.trans (hb1.mono (by have := hc.size; simp; omega))
              rw [hE]
              go_wp2_with fail
              go_quiet (fail)
              go_wp2_with fail
              go_roundw
              case rel => exact ⟨k + 1, by omega, by go_num, below_drewN hb2 _, HT⟩
              case measure => simp [intOf]; omega
            · obtain ⟨p, hp⟩ : ∃ p, g.ties[k - 1]? = some p := ⟨_, List.getElem?_eq_getElem (by omega)⟩
              obtain ⟨hok', y0, y1, y2⟩ := hall _ _ hp
              have hkd0 : (0 : Int) < (k : Int) := by omega
              have hkd1 : decide ((0 : Int) < (k : Int)) = true := by simp; omega
              have hkd2 : decide (0 < k) = true := by simp; omega
              have hpv : prev g.ties k = some p := by
                obtain ⟨m, rfl⟩ : ∃ m, k = m + 1 := ⟨k - 1, by omega⟩
                exact hp
              have e0 := World.cell?_alloc_lt wr (.cells #[.string d.bond, .int .i64 d.src, .int .i64 d.dst] 54) (a := ⟨b, o + (k - 1) * 3, none⟩) hbl
              have e1 := World.cell?_alloc_lt wr (.cells #[.string d.bond, .int .i64 d.src, .int .i64 d.dst] 54) (a := ⟨b, o + (k - 1) * 3 + 1, none⟩) hbl
              have e2 := World.cell?_alloc_lt wr (.cells #[.string d.bond, .int .i64 d.src, .int .i64 d.dst] 54) (a := ⟨b, o + (k - 1) * 3 + 2, none⟩) hbl
              have e3 := World.cell?_alloc_lt wr (.cells #[.string d.bond, .int .i64 d.src, .int .i64 d.dst] 54) (a := ⟨w.heap.size, 1, none⟩) hwr
              obtain ⟨f0, f1, f2⟩ := cell_box3 wr (.string d.bond) (.int .i64 d.src) (.int .i64 d.dst) 54
              have hord := fun (x : World) => order_any p d x
              by_cases h5 : 0 ≤ tieO p d
              · have h5' : decide (0 ≤ tieO p d) = true := by simpa using h5
                have HE : Hid (errV (grfE g) = .iface 59 (.int .i64 7)) := by
                  have : tiesE none g.ties = 7 := by rw [HS.out, hpv]; simp only [tiesE, h4, h5', if_true]
                  rw [HT.out, this]; rfl
                clear hall hd HS h4 ht hp h5 hpv
                go_wp2_with fail
                refine (ofTie_any d _ hok.1).mono ?_
                rintro e w1 ⟨rfl, hb1⟩
                rw [hE]
                have g1 := fun dd os => Go.cell_regrown (cell_below hb1 (e3.trans r1)) dd os
                have z0 := fun dd os => Go.cell_regrown (cell_below hb1 (e0.trans y0)) dd os
                have z1 := fun dd os => Go.cell_regrown (cell_below hb1 (e1.trans y1)) dd os
                have z2 := fun dd os => Go.cell_regrown (cell_below hb1 (e2.trans y2)) dd os
                have v0 := fun dd os => Go.cell_regrown (cell_below hb1 f0) dd os
                have v1 := fun dd os => Go.cell_regrown (cell_below hb1 f1) dd os
                have v2 := fun dd os => Go.cell_regrown (cell_below hb1 f2) dd os
                clear e0 e1 e2 e3 f0 f1 f2
                go_wp2_with fail
                refine Go.wp_region_quiet_below (by kernel_rfl) (by kernel_rfl) ?_
                repeat (go_big_quiet_step ((go_at_call 20; exact Go.Calls.regrown_of (hord _))))
                refine wpQuiet_nil ?_
                intro _ hw'
                obtain ⟨⟨dq, osq⟩, hw''⟩ := hw'
                subst hw''
                go_wp2_with fail
                go_ret
                exact ⟨by rw [HE.out]; rfl, (hbx.trans (hb1.mono hbx.size)).trans ((below_regrown w1 dq osq).mono (by have := hb1.size; have := hbx.size; omega))⟩
              · have h5' : decide (0 ≤ tieO p d) = false := by simpa using h5
                have HT' : Hid (tiesE none g.ties = tiesE (prev g.ties (k + 1)) (g.ties.drop (k + 1))) := by
                  unfold Hid; rw [HS.out, HP.out, hpv]; simp only [tiesE, h4, h5', if_true, Bool.false_eq_true, if_false]
                clear hall hd HS h4 ht hp h5 hpv
                go_wp2_with fail
                refine (ofTie_any d _ hok.1).mono ?_
                rintro e w1 ⟨rfl, hb1⟩
                rw [hE]
                have g1 := fun dd os => Go.cell_regrown (cell_below hb1 (e3.trans r1)) dd os
                have z0 := fun dd os => Go.cell_regrown (cell_below hb1 (e0.trans y0)) dd os
                have z1 := fun dd os => Go.cell_regrown (cell_below hb1 (e1.trans y1)) dd os
                have z2 := fun dd os => Go.cell_regrown (cell_below hb1 (e2.trans y2)) dd os
                have v0 := fun dd os => Go.cell_regrown (cell_below hb1 f0) dd os
                have v1 := fun dd os => Go.cell_regrown (cell_below hb1 f1) dd os
                have v2 := fun dd os => Go.cell_regrown (cell_below hb1 f2) dd os
                clear e0 e1 e2 e3 f0 f1 f2
                go_wp2_with fail
                refine Go.wp_region_quiet_below (by kernel_rfl) (by kernel_rfl) ?_
                repeat (go_big_quiet_step ((go_at_call 20; exact Go.Calls.regrown_of (hord _))))
                refine wpQuiet_nil ?_
                intro _ hw'
                obtain ⟨⟨dq, osq⟩, hw''⟩ := hw'
                subst hw''
                go_wp2_with fail
                have hb3 : Below wo.heap.size wo w1 := hbo.trans (hb1.mono hbo.size)
                go_roundw
                case rel => exact ⟨k + 1, by omega, by go_num, hb3.trans ((below_regrown w1 dq osq).mono hb3.size), HT'⟩
                case measure => simp [intOf]; omega
          · have hE : errV (tieE d) = .iface 59 (.int .i64 (tieE d)) := errV_some h4
            have HE : Hid (errV (grfE g) = .iface 59 (.int .i64 (tieE d))) := by
              have : tiesE none g.ties = tieE d := by rw [HS.out]; simp only [tiesE, h4, if_false]
              rw [HT.out, this]; exact hE
            clear hall hd HS h4 ht
            go_wp2_with fail
            refine (ofTie_any d _ hok.1).mono ?_
            rintro e w1 ⟨rfl, hb1⟩
            rw [hE]
            go_wp2_with fail
            go_ret
            exact ⟨by rw [HE.out]; rfl, hbx.trans (hb1.mono hbx.size)⟩
        · have hkl : k = g.ties.length := by omega
          subst hkl
          have HE : Hid (errV (grfE g) = .nilIface) := by
            have : tiesE none g.ties = 0 := by rw [HA.out, List.drop_length]; rfl
            rw [HT.out, this]; rfl
          clear ht
          go_wp2_with fail
          go_ret
          exact ⟨by rw [HE.out]; rfl, hbw'⟩
end Go.Proofs.YtmbeeaohidgfgaaDoor
