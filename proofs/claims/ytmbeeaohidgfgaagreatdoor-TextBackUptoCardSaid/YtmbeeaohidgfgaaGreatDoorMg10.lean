/- Parts: GrB, FindA, FindB, Cmp, RecS, GrC, TieP. -/
import Derived.Test.YtmbeeaohidgfgaaGreatDoorMg09
import Derived.Test.YtmbeeaohidgfgaaGreatDoorMg08
/- Contract: what graph.Check of the program answers. -/
namespace Go.Proofs.YtmbeeaohidgfgaaGreatDoor
open Go.RowKit

/-- The one ahead of place k. -/
def prev {D : Type} (l : List D) : Nat → Option D
  | 0 => none
  | k + 1 => l[k]?
theorem drop_cons {D : Type} {l : List D} {k : Nat} {d : D} (h : l[k]? = some d) : l.drop k = d :: l.drop (k + 1) := by
  obtain ⟨hk, rfl⟩ := List.getElem?_eq_some_iff.1 h
  exact List.drop_eq_getElem_cons hk

def nodsE : Option Nod → List Nod → Int
  | _, [] => 0
  | p, n :: r => if idB n.id = false then 1 else if (match p with | some q => decide (n.id ≤ q.id) | none => false) then 7 else if nodE n = 0 then nodsE (some n) r else nodE n
def tiesE : Option Tie → List Tie → Int
  | _, [] => 0
  | p, t :: r => if tieE t = 0 then (if (match p with | some q => decide (0 ≤ tieO q t) | none => false) then 7 else tiesE (some t) r) else tieE t
/-- The fault of a graph. -/
def grfE (g : Grf) : Int :=
  if 60 < g.nodes.length ∨ 120 < g.ties.length then 4 else if nodsE none g.nodes = 0 then tiesE none g.ties else nodsE none g.nodes

theorem cell_box3 (w : World) (a b c : Value) (t : TypeId) : (w.alloc (.cells #[a, b, c] t)).cell? ⟨w.heap.size, 0, none⟩ = some a ∧ (w.alloc (.cells #[a, b, c] t)).cell? ⟨w.heap.size, 1, none⟩ = some b ∧
    (w.alloc (.cells #[a, b, c] t)).cell? ⟨w.heap.size, 2, none⟩ = some c :=
  ⟨by rw [World.cell?_alloc_at _ _ _ _ rfl]; rfl, by rw [World.cell?_alloc_at _ _ _ _ rfl]; rfl, by rw [World.cell?_alloc_at _ _ _ _ rfl]; rfl⟩
theorem cell_box2 (w : World) (a b : Value) (t : TypeId) : (w.alloc (.cells #[a, b] t)).cell? ⟨w.heap.size, 0, none⟩ = some a ∧ (w.alloc (.cells #[a, b] t)).cell? ⟨w.heap.size, 1, none⟩ = some b :=
  ⟨by rw [World.cell?_alloc_at _ _ _ _ rfl]; rfl, by rw [World.cell?_alloc_at _ _ _ _ rfl]; rfl⟩

set_option maxHeartbeats 4000000 in
theorem grfCheck_any (g : Grf) (vn vt : Value) (w : World) (hg : GrfR w vn vt g) :
    Calls Tryz.prog 44 #[.agg #[vn, vt]] w fun e w' => e = .returned (errV (grfE g)) ∧ Below w.heap.size w w' := by
  obtain ⟨hn, ht⟩ := hg
  obtain ⟨A, c, rfl, hlc, hcm⟩ := hn.form
  obtain ⟨A', c', rfl, hlc', hcm'⟩ := ht.form
  unfold maxLen at hcm hcm'
  have HF : Hid (grfE g = if 60 < g.nodes.length ∨ 120 < g.ties.length then 4 else if nodsE none g.nodes = 0 then tiesE none g.ties else nodsE none g.nodes) := rfl
  obtain ⟨q0, q1⟩ := cell_box2 w (.slice A g.nodes.length c) (.slice A' g.ties.length c') 62
  have hb0 : Below w.heap.size w (w.alloc (.cells #[.slice A g.nodes.length c, .slice A' g.ties.length c'] 62)) := (Below.refl _ _).alloc (Nat.le_refl _) _
  by_cases h1 : 60 < g.nodes.length
  · have HE : Hid (errV (grfE g) = .iface 74 (.int .i64 4)) := by rw [HF.out, if_pos (Or.inl h1)]; rfl
    have h1' : (60 : Int) < (g.nodes.length : Int) := by omega
    clear hn ht
    go_enter Tryz.func44, Tryz.ntmps44
    go_wp2_with fail
    go_ret
    exact ⟨by rw [HE.out]; rfl, hb0⟩
  have h1' : decide ((60 : Int) < (g.nodes.length : Int)) = false := by simp; omega
  have h1'' : (g.nodes.length : Int) ≤ 60 := by omega
  by_cases h2 : 120 < g.ties.length
  · have HE : Hid (errV (grfE g) = .iface 74 (.int .i64 4)) := by rw [HF.out, if_pos (Or.inr h2)]; rfl
    have h2' : (120 : Int) < (g.ties.length : Int) := by omega
    clear hn ht
    go_enter Tryz.func44, Tryz.ntmps44
    go_wp2_with fail
    go_ret
    exact ⟨by rw [HE.out]; rfl, hb0⟩
  have h2' : decide ((120 : Int) < (g.ties.length : Int)) = false := by simp; omega
  have h2'' : (g.ties.length : Int) ≤ 120 := by omega
  have HG : Hid (grfE g = if nodsE none g.nodes = 0 then tiesE none g.ties else nodsE none g.nodes) := by rw [HF.out, if_neg (by omega)]; rfl
  clear HF
  have H1 := Lib.hid h1
  have H2 := Lib.hid h2
  clear h1 h2
  have hw0 : w.heap.size < (w.alloc (.cells #[.slice A g.nodes.length c, .slice A' g.ties.length c'] 62)).heap.size := by simp
  go_enter Tryz.func44, Tryz.ntmps44
  go_wp2_with fail
  generalize hW : w.alloc (.cells #[.slice A g.nodes.length c, .slice A' g.ties.length c'] 62) = W at q0 q1 hb0 hw0
  clear hW
  go_loopw [23] (fun i wr => ∃ k : Nat, k ≤ g.nodes.length ∧ i = .int .i64 k ∧ Below W.heap.size W wr ∧ Hid (nodsE none g.nodes = nodsE (prev g.nodes k) (g.nodes.drop k))) (fun i _ => g.nodes.length - (intOf i).toNat)
  case atStart => exact ⟨0, Nat.zero_le _, rfl, Below.refl _ _, rfl⟩
  case round =>
    obtain ⟨k, hk, rfl, hb, HA⟩ := hrel
    have hbw : Below w.heap.size w wr := hb0.trans (hb.mono hb0.size)
    have r0 : wr.cell? ⟨w.heap.size, 0, none⟩ = some (.slice A g.nodes.length c) := cell_below hb q0
    have r1 : wr.cell? ⟨w.heap.size, 1, none⟩ = some (.slice A' g.ties.length c') := cell_below hb q1
    by_cases hlt : k < g.nodes.length
    · obtain ⟨d, hd⟩ : ∃ d, g.nodes[k]? = some d := ⟨_, List.getElem?_eq_getElem hlt⟩
      obtain ⟨b, o, rfl, hall⟩ := nod_all (hn.below hbw) (by omega)
      obtain ⟨u, hid, hkd, hpr, x0, x1, x2⟩ := hall _ _ hd
      obtain ⟨Ar, cr, rfl, _, _⟩ := hpr.form
      have hwr : w.heap.size < wr.heap.size := by have := hb.size; omega
      have hbl : b < wr.heap.size := World.block_lt_of_cell? _ _ x0
      have HS : Hid (nodsE none g.nodes = nodsE (prev g.nodes k) (d :: g.nodes.drop (k + 1))) := by rw [HA.out, drop_cons hd]; rfl
      have hbx : Below W.heap.size W (wr.alloc (.cells #[.int .i64 d.id, .string d.kind, .slice Ar d.props.length cr] 66)) := hb.alloc hb.size _
      clear HA
      cases h3 : idB d.id with
      | false =>
        have HE : Hid (errV (grfE g) = .iface 74 (.int .i64 1)) := by
          have : nodsE none g.nodes = 1 := by rw [HS.out]; simp only [nodsE, h3, if_true]
          rw [HG.out, if_neg (by rw [this]; decide), this]; rfl
        clear hall hd hn ht
        go_wp2_with (go_at_call 74; refine (id_b _ _).mono ?_; rintro e w' ⟨rfl, rfl⟩)
        go_ret
        exact ⟨by rw [HE.out]; rfl, hb0.trans (hbx.mono hb0.size)⟩
      | true =>
        rcases Nat.eq_zero_or_pos k with hk0 | hk0
        · have hkd0 : decide ((0 : Int) < (k : Int)) = false := by simp; omega
          have hkd1 : (k : Int) ≤ 0 := by omega
          have hkd2 : decide (0 < k) = false := by simp; omega
          have HS' : Hid (nodsE none g.nodes = if nodE d = 0 then nodsE (some d) (g.nodes.drop (k + 1)) else nodE d) := by
            rw [HS.out, hk0]; simp only [nodsE, prev, h3, Bool.true_eq_false, if_false]; rfl
          have HP : Hid (prev g.nodes (k + 1) = some d) := hd
          clear hall hd hk0 HS
          by_cases h4 : nodE d = 0
          · have hE : errV (nodE d) = .nilIface := errV_zero h4
            have HT : Hid (nodsE none g.nodes = nodsE (prev g.nodes (k + 1)) (g.nodes.drop (k + 1))) := by rw [HS'.out, if_pos h4, HP.out]; rfl
            clear h4 HS'
            go_wp2_with (go_at_call 74; refine (id_b _ _).mono ?_; rintro e w' ⟨rfl, rfl⟩)
            go_quiet (fail)
            go_wp2_with fail
            refine (ofNode_any d _ _ hkd ((hpr.below ((Below.refl _ _).alloc (Nat.le_refl _) _)).below (below_drewN (Below.refl _ _) _))).mono ?_
            rintro e w1 ⟨rfl, hb1⟩
            rw [hE]
            have hb2 : Below W.heap.size W w1 := (below_drewN hbx nq).trans (hb1.mono (by have := hb.size; simp [World.drewN]; omega))
            go_wp2_with fail
            go_roundw
            case rel => exact ⟨k + 1, by omega, by go_num, hb2, HT⟩
            case measure => simp [intOf]; omega
          · have hE : errV (nodE d) = .iface 74 (.int .i64 (nodE d)) := errV_some h4
            have HE : Hid (errV (grfE g) = .iface 74 (.int .i64 (nodE d))) := by
              have : nodsE none g.nodes = nodE d := by rw [HS'.out, if_neg h4]
              rw [HG.out, if_neg (by rw [this]; exact h4), this]; exact hE
            clear h4 HS'
            go_wp2_with (go_at_call 74; refine (id_b _ _).mono ?_; rintro e w' ⟨rfl, rfl⟩)
            go_quiet (fail)
            go_wp2_with fail
            refine (ofNode_any d _ _ hkd ((hpr.below ((Below.refl _ _).alloc (Nat.le_refl _) _)).below (below_drewN (Below.refl _ _) _))).mono ?_
            rintro e w1 ⟨rfl, hb1⟩
            rw [hE]
            have hb2 : Below W.heap.size W w1 := (below_drewN hbx nq).trans (hb1.mono (by have := hb.size; simp [World.drewN]; omega))
            go_wp2_with fail
            go_ret
            exact ⟨by rw [HE.out]; rfl, hb0.trans (hb2.mono hb0.size)⟩
        · obtain ⟨p, hp⟩ : ∃ p, g.nodes[k - 1]? = some p := ⟨_, List.getElem?_eq_getElem (by omega)⟩
          obtain ⟨u', hid', _, _, y0, _, _⟩ := hall _ _ hp
          have hkd0 : (0 : Int) < (k : Int) := by omega
          have hkd1 : decide ((0 : Int) < (k : Int)) = true := by simp; omega
          have hkd2 : decide (0 < k) = true := by simp; omega
          have hpv : prev g.nodes k = some p := by
            obtain ⟨m, rfl⟩ : ∃ m, k = m + 1 := ⟨k - 1, by omega⟩
            exact hp
          have HP : Hid (prev g.nodes (k + 1) = some d) := hd
          by_cases h5 : d.id ≤ p.id
          · have h5' : decide (d.id ≤ p.id) = true := by simpa using h5
            have HE : Hid (errV (grfE g) = .iface 74 (.int .i64 7)) := by
              have : nodsE none g.nodes = 7 := by rw [HS.out, hpv]; simp only [nodsE, h3, h5', Bool.true_eq_false, if_false, if_true]
              rw [HG.out, if_neg (by rw [this]; decide), this]; rfl
            clear hall hd hp HS hpv hn ht
            go_wp2_with (go_at_call 74; refine (id_b _ _).mono ?_; rintro e w' ⟨rfl, rfl⟩)
            go_quiet (fail)
            go_wp2_with fail
            go_ret
            exact ⟨by rw [HE.out]; rfl, hb0.trans ((below_drewN hbx _).mono hb0.size)⟩
          · have h5' : decide (d.id ≤ p.id) = false := by simpa using h5
            have h5'' : p.id < d.id := by omega
            have HS' : Hid (nodsE none g.nodes = if nodE d = 0 then nodsE (some d) (g.nodes.drop (k + 1)) else nodE d) := by
              unfold Hid; rw [HS.out, hpv]; simp only [nodsE, h3, h5', Bool.true_eq_false, if_false, Bool.false_eq_true]
            clear hall hd hp HS hpv hn ht h5
            by_cases h4 : nodE d = 0
            · have hE : errV (nodE d) = .nilIface := errV_zero h4
              have HT : Hid (nodsE none g.nodes = nodsE (prev g.nodes (k + 1)) (g.nodes.drop (k + 1))) := by rw [HS'.out, if_pos h4, HP.out]; rfl
              clear h4 HS'
              go_wp2_with (go_at_call 74; refine (id_b _ _).mono ?_; rintro e w' ⟨rfl, rfl⟩)
              go_quiet (fail)
              go_wp2_with fail
              refine (ofNode_any d _ _ hkd ((hpr.below ((Below.refl _ _).alloc (Nat.le_refl _) _)).below (below_drewN (Below.refl _ _) _))).mono ?_
              rintro e w1 ⟨rfl, hb1⟩
              rw [hE]
              have hb2 : Below W.heap.size W w1 := (below_drewN hbx nq).trans (hb1.mono (by have := hb.size; simp [World.drewN]; omega))
              go_wp2_with fail
              go_roundw
              case rel => exact ⟨k + 1, by omega, by go_num, hb2, HT⟩
              case measure => simp [intOf]; omega
            · have hE : errV (nodE d) = .iface 74 (.int .i64 (nodE d)) := errV_some h4
              have HE : Hid (errV (grfE g) = .iface 74 (.int .i64 (nodE d))) := by
                have : nodsE none g.nodes = nodE d := by rw [HS'.out, if_neg h4]
                rw [HG.out, if_neg (by rw [this]; exact h4), this]; exact hE
              clear h4 HS'
              go_wp2_with (go_at_call 74; refine (id_b _ _).mono ?_; rintro e w' ⟨rfl, rfl⟩)
              go_quiet (fail)
              go_wp2_with fail
              refine (ofNode_any d _ _ hkd ((hpr.below ((Below.refl _ _).alloc (Nat.le_refl _) _)).below (below_drewN (Below.refl _ _) _))).mono ?_
              rintro e w1 ⟨rfl, hb1⟩
              rw [hE]
              have hb2 : Below W.heap.size W w1 := (below_drewN hbx nq).trans (hb1.mono (by have := hb.size; simp [World.drewN]; omega))
              go_wp2_with fail
              go_ret
              exact ⟨by rw [HE.out]; rfl, hb0.trans (hb2.mono hb0.size)⟩
    · have hkl : k = g.nodes.length := by omega
      subst hkl
      have HT : Hid (grfE g = tiesE none g.ties) := by
        have : nodsE none g.nodes = 0 := by rw [HA.out, List.drop_length]; rfl
        rw [HG.out, if_pos this]; rfl
      clear HG HA hn
      obtain ⟨wo, rfl⟩ : ∃ wo : World, wo = wr := ⟨_, rfl⟩
      go_wp2_with fail
      go_loopw [57] (fun i wr => ∃ k : Nat, k ≤ g.ties.length ∧ i = .int .i64 k ∧ Below wo.heap.size wo wr ∧ Hid (tiesE none g.ties = tiesE (prev g.ties k) (g.ties.drop k))) (fun i _ => g.ties.length - (intOf i).toNat)
      case atStart => exact ⟨0, Nat.zero_le _, rfl, Below.refl _ _, rfl⟩
      case round =>
        obtain ⟨k, hk, rfl, hc, HA⟩ := hrel
        have hbw' : Below w.heap.size w wr := hbw.trans (hc.mono hbw.size)
        have r0 : wr.cell? ⟨w.heap.size, 0, none⟩ = some (.slice A g.nodes.length c) := cell_below hc r0
        have r1 : wr.cell? ⟨w.heap.size, 1, none⟩ = some (.slice A' g.ties.length c') := cell_below hc r1
        by_cases hlt : k < g.ties.length
        · obtain ⟨d, hd⟩ : ∃ d, g.ties[k]? = some d := ⟨_, List.getElem?_eq_getElem hlt⟩
          obtain ⟨b, o, rfl, hall⟩ := tie_all (ht.below hbw') (by omega)
          obtain ⟨hok, x0, x1, x2⟩ := hall _ _ hd
          have HS : Hid (tiesE none g.ties = tiesE (prev g.ties k) (d :: g.ties.drop (k + 1))) := by rw [HA.out, drop_cons hd]; rfl
          have HP : Hid (prev g.ties (k + 1) = some d) := hd
          have hwr : w.heap.size < wr.heap.size := by have := hc.size; have := hb.size; omega
          have hbl : b < wr.heap.size := World.block_lt_of_cell? _ _ x0
          have hbx : Below w.heap.size w (wr.alloc (.cells #[.string d.bond, .int .i64 d.src, .int .i64 d.dst] 109)) := hbw'.alloc hbw'.size _
          have hbo : Below wo.heap.size wo (wr.alloc (.cells #[.string d.bond, .int .i64 d.src, .int .i64 d.dst] 109)) := hc.alloc hc.size _
          clear HA
          by_cases h4 : tieE d = 0
          · have hE : errV (tieE d) = .nilIface := errV_zero h4
            rcases Nat.eq_zero_or_pos k with hk0 | hk0
            · have hkd0 : decide ((0 : Int) < (k : Int)) = false := by simp; omega
              have hkd1 : (k : Int) ≤ 0 := by omega
              have hkd2 : decide (0 < k) = false := by simp; omega
              have HT : Hid (tiesE none g.ties = tiesE (prev g.ties (k + 1)) (g.ties.drop (k + 1))) := by
                unfold Hid; rw [HS.out, HP.out, hk0]; simp [tiesE, prev, h4]
              clear hall hd hk0 HS h4 ht
              go_wp2_with fail
              refine (ofTie_any d _ hok.1).mono ?_
              rintro e w1 ⟨rfl, hb1⟩
              have hb2 : Below wo.heap.size wo w1 := hbo.trans (hb1.mono (by have := hc.size; simp; omega))
              rw [hE]
              go_wp2_with fail
              go_quiet (fail)
              go_wp2_with fail
              go_roundw
              case rel => exact ⟨k + 1, by omega, by go_num, below_drewN hb2 _, HT⟩
              case measure => simp [intOf]; omega
            · obtain ⟨p, hp⟩ : ∃ p, g.ties[k - 1]? = some p := ⟨_, List.getElem?_eq_getElem (by omega)⟩
              obtain ⟨hok', y0, y1, y2⟩ := hall _ _ hp
              have hkd0 : (0 : Int) < (k : Int) := by omega
              have hkd1 : decide ((0 : Int) < (k : Int)) = true := by simp; omega
              have hkd2 : decide (0 < k) = true := by simp; omega
              have hpv : prev g.ties k = some p := by
                obtain ⟨m, rfl⟩ : ∃ m, k = m + 1 := ⟨k - 1, by omega⟩
                exact hp
              have e0 := World.cell?_alloc_lt wr (.cells #[.string d.bond, .int .i64 d.src, .int .i64 d.dst] 109) (a := ⟨b, o + (k - 1) * 3, none⟩) hbl
              have e1 := World.cell?_alloc_lt wr (.cells #[.string d.bond, .int .i64 d.src, .int .i64 d.dst] 109) (a := ⟨b, o + (k - 1) * 3 + 1, none⟩) hbl
              have e2 := World.cell?_alloc_lt wr (.cells #[.string d.bond, .int .i64 d.src, .int .i64 d.dst] 109) (a := ⟨b, o + (k - 1) * 3 + 2, none⟩) hbl
              have e3 := World.cell?_alloc_lt wr (.cells #[.string d.bond, .int .i64 d.src, .int .i64 d.dst] 109) (a := ⟨w.heap.size, 1, none⟩) hwr
              obtain ⟨f0, f1, f2⟩ := cell_box3 wr (.string d.bond) (.int .i64 d.src) (.int .i64 d.dst) 109
              have hord := fun (x : World) => order_any p d x
              by_cases h5 : 0 ≤ tieO p d
              · have h5' : decide (0 ≤ tieO p d) = true := by simpa using h5
                have HE : Hid (errV (grfE g) = .iface 74 (.int .i64 7)) := by
                  have : tiesE none g.ties = 7 := by rw [HS.out, hpv]; simp only [tiesE, h4, h5', if_true]
                  rw [HT.out, this]; rfl
                clear hall hd HS h4 ht hp h5 hpv
                go_wp2_with fail
                refine (ofTie_any d _ hok.1).mono ?_
                rintro e w1 ⟨rfl, hb1⟩
                rw [hE]
                have g1 := fun dd os => Go.cell_regrown (cell_below hb1 (e3.trans r1)) dd os
                have z0 := fun dd os => Go.cell_regrown (cell_below hb1 (e0.trans y0)) dd os
                have z1 := fun dd os => Go.cell_regrown (cell_below hb1 (e1.trans y1)) dd os
                have z2 := fun dd os => Go.cell_regrown (cell_below hb1 (e2.trans y2)) dd os
                have v0 := fun dd os => Go.cell_regrown (cell_below hb1 f0) dd os
                have v1 := fun dd os => Go.cell_regrown (cell_below hb1 f1) dd os
                have v2 := fun dd os => Go.cell_regrown (cell_below hb1 f2) dd os
                clear e0 e1 e2 e3 f0 f1 f2
                go_wp2_with fail
                refine Go.wp_region_quiet_below (by kernel_rfl) (by kernel_rfl) ?_
                repeat (go_big_quiet_step ((go_at_call 77; exact Go.Calls.regrown_of (hord _))))
                refine wpQuiet_nil ?_
                intro _ hw'
                obtain ⟨⟨dq, osq⟩, hw''⟩ := hw'
                subst hw''
                go_wp2_with fail
                go_ret
                exact ⟨by rw [HE.out]; rfl, (hbx.trans (hb1.mono hbx.size)).trans ((below_regrown w1 dq osq).mono (by have := hb1.size; have := hbx.size; omega))⟩
              · have h5' : decide (0 ≤ tieO p d) = false := by simpa using h5
                have HT' : Hid (tiesE none g.ties = tiesE (prev g.ties (k + 1)) (g.ties.drop (k + 1))) := by
                  unfold Hid; rw [HS.out, HP.out, hpv]; simp only [tiesE, h4, h5', if_true, Bool.false_eq_true, if_false]
                clear hall hd HS h4 ht hp h5 hpv
                go_wp2_with fail
                refine (ofTie_any d _ hok.1).mono ?_
                rintro e w1 ⟨rfl, hb1⟩
                rw [hE]
                have g1 := fun dd os => Go.cell_regrown (cell_below hb1 (e3.trans r1)) dd os
                have z0 := fun dd os => Go.cell_regrown (cell_below hb1 (e0.trans y0)) dd os
                have z1 := fun dd os => Go.cell_regrown (cell_below hb1 (e1.trans y1)) dd os
                have z2 := fun dd os => Go.cell_regrown (cell_below hb1 (e2.trans y2)) dd os
                have v0 := fun dd os => Go.cell_regrown (cell_below hb1 f0) dd os
                have v1 := fun dd os => Go.cell_regrown (cell_below hb1 f1) dd os
                have v2 := fun dd os => Go.cell_regrown (cell_below hb1 f2) dd os
                clear e0 e1 e2 e3 f0 f1 f2
                go_wp2_with fail
                refine Go.wp_region_quiet_below (by kernel_rfl) (by kernel_rfl) ?_
                repeat (go_big_quiet_step ((go_at_call 77; exact Go.Calls.regrown_of (hord _))))
                refine wpQuiet_nil ?_
                intro _ hw'
                obtain ⟨⟨dq, osq⟩, hw''⟩ := hw'
                subst hw''
                go_wp2_with fail
                have hb3 : Below wo.heap.size wo w1 := hbo.trans (hb1.mono hbo.size)
                go_roundw
                case rel => exact ⟨k + 1, by omega, by go_num, hb3.trans ((below_regrown w1 dq osq).mono hb3.size), HT'⟩
                case measure => simp [intOf]; omega
          · have hE : errV (tieE d) = .iface 74 (.int .i64 (tieE d)) := errV_some h4
            have HE : Hid (errV (grfE g) = .iface 74 (.int .i64 (tieE d))) := by
              have : tiesE none g.ties = tieE d := by rw [HS.out]; simp only [tiesE, h4, if_false]
              rw [HT.out, this]; exact hE
            clear hall hd HS h4 ht
            go_wp2_with fail
            refine (ofTie_any d _ hok.1).mono ?_
            rintro e w1 ⟨rfl, hb1⟩
            rw [hE]
            go_wp2_with fail
            go_ret
            exact ⟨by rw [HE.out]; rfl, hbx.trans (hb1.mono hbx.size)⟩
        · have hkl : k = g.ties.length := by omega
          subst hkl
          have HE : Hid (errV (grfE g) = .nilIface) := by
            have : tiesE none g.ties = 0 := by rw [HA.out, List.drop_length]; rfl
            rw [HT.out, this]; rfl
          clear ht
          go_wp2_with fail
          go_ret
          exact ⟨by rw [HE.out]; rfl, hbw'⟩


/-! ### Nodes by number -/
def nodLt (a b : Nod) : Bool := decide (a.id < b.id)
/-! ### Properties by name -/
def prpLt (a b : Prp) : Bool := ltS a.name b.name

open Go Go.RowKit


/-! ### The order of names -/
theorem rec_ok {r : List Prp} (h : recE r = 0) : r.length ≤ 8 ∧ (∀ p ∈ r, prpE p = 0) ∧ chain prpLt r = true := by
  unfold recE at h
  by_cases h1 : 8 < r.length
  · rw [if_pos h1] at h; omega
  rw [if_neg h1] at h
  by_cases h2 : firstE prpE r = 0
  · rw [if_pos h2] at h
    cases hc : chain (fun a b : Prp => ltS a.name b.name) r with
    | true =>
      refine ⟨by omega, fun p hp => ?_, hc⟩
      have key : ∀ l : List Prp, firstE prpE l = 0 → ∀ p ∈ l, prpE p = 0 := by
        intro l
        induction l with
        | nil => intro _ p hp; simp at hp
        | cons a l ih =>
          intro h p hp
          rw [firstE] at h
          split at h
          · rename_i h0
            rcases List.mem_cons.1 hp with rfl | hp
            · exact h0
            · exact ih h p hp
          · rename_i h0; exact absurd h h0
      exact key r h2 p hp
    | false => rw [hc] at h; simp at h
  · rw [if_neg h2] at h; exact absurd h h2
/-! ### record.Get -/
theorem res3 {w w1 : World} {T : TypeId} {c0 c1 c2 : Value} (a b c : Value) (hB : Below w.heap.size w w1) (h : w1.heap[w.heap.size]? = some (.cells #[c0, c1, c2] T (0, 0))) :
    Below w.heap.size w (((w1.setCell ⟨w.heap.size, 0, none⟩ a).setCell ⟨w.heap.size, 1, none⟩ b).setCell ⟨w.heap.size, 2, none⟩ c) ∧
    (((w1.setCell ⟨w.heap.size, 0, none⟩ a).setCell ⟨w.heap.size, 1, none⟩ b).setCell ⟨w.heap.size, 2, none⟩ c).cell? ⟨w.heap.size, 0, none⟩ = some a ∧
    (((w1.setCell ⟨w.heap.size, 0, none⟩ a).setCell ⟨w.heap.size, 1, none⟩ b).setCell ⟨w.heap.size, 2, none⟩ c).cell? ⟨w.heap.size, 1, none⟩ = some b ∧
    (((w1.setCell ⟨w.heap.size, 0, none⟩ a).setCell ⟨w.heap.size, 1, none⟩ b).setCell ⟨w.heap.size, 2, none⟩ c).cell? ⟨w.heap.size, 2, none⟩ = some c := by
  have h3 := setCell_block (setCell_block (setCell_block h 0 a) 1 b) 2 c
  exact ⟨((hB.setCell (p := ⟨_, 0, none⟩) (Nat.le_refl _) _).setCell (p := ⟨_, 1, none⟩) (Nat.le_refl _) _).setCell (p := ⟨_, 2, none⟩) (Nat.le_refl _) _, block_cell h3 0, block_cell h3 1, block_cell h3 2⟩

/-! ### What a right graph gives -/
theorem nodsE_step {p : Option Nod} {n : Nod} {r : List Nod} (h : nodsE p (n :: r) = 0) : idB n.id = true ∧ nodE n = 0 ∧ nodsE (some n) r = 0 ∧ (∀ a, p = some a → nodLt a n = true) := by
  have h1 : idB n.id = true := by
    cases h1 : idB n.id with
    | true => rfl
    | false => unfold nodsE at h; rw [if_pos h1] at h; cases h
  have key : ∀ b : Bool, (if b = true then (7 : Int) else if nodE n = 0 then nodsE (some n) r else nodE n) = 0 → b = false ∧ nodE n = 0 ∧ nodsE (some n) r = 0 := by
    intro b hb
    cases b with
    | true => cases hb
    | false =>
      simp only [Bool.false_eq_true, if_false] at hb
      by_cases h3 : nodE n = 0
      · rw [if_pos h3] at hb; exact ⟨rfl, h3, hb⟩
      · rw [if_neg h3] at hb; exact absurd hb h3
  have hid : ¬ (idB n.id = false) := by simp [h1]
  cases p with
  | none =>
    unfold nodsE at h
    rw [if_neg hid] at h
    obtain ⟨_, k2, k3⟩ := key false h
    exact ⟨h1, k2, k3, fun a ha => by cases ha⟩
  | some q =>
    unfold nodsE at h
    rw [if_neg hid] at h
    obtain ⟨k1, k2, k3⟩ := key (decide (n.id ≤ q.id)) h
    refine ⟨h1, k2, k3, fun a ha => ?_⟩
    cases ha
    unfold nodLt
    simpa using k1
theorem nodsE_zero : ∀ {l : List Nod} {p : Option Nod}, nodsE p l = 0 → (∀ n ∈ l, idB n.id = true ∧ nodE n = 0) ∧ chain nodLt l = true ∧ (∀ a b, p = some a → l.head? = some b → nodLt a b = true)
  | [], p, _ => ⟨by simp, rfl, by simp⟩
  | n :: r, p, h => by
    obtain ⟨s1, s2, s3, s4⟩ := nodsE_step h
    obtain ⟨i1, i2, i3⟩ := nodsE_zero s3
    refine ⟨?_, ?_, ?_⟩
    · intro m hm
      rcases List.mem_cons.1 hm with rfl | hm
      · exact ⟨s1, s2⟩
      · exact i1 m hm
    · cases r with
      | nil => rfl
      | cons b r => simp only [chain, Bool.and_eq_true]; exact ⟨i3 n b rfl rfl, i2⟩
    · intro a b ha hb
      simp at hb
      subst hb
      exact s4 a ha
theorem grf_ok {g : Grf} (h : grfE g = 0) : g.nodes.length ≤ 60 ∧ g.ties.length ≤ 120 ∧ chain nodLt g.nodes = true ∧ ∀ n ∈ g.nodes, idB n.id = true ∧ nodE n = 0 := by
  unfold grfE at h
  by_cases h1 : 60 < g.nodes.length ∨ 120 < g.ties.length
  · rw [if_pos h1] at h; cases h
  rw [if_neg h1] at h
  by_cases h2 : nodsE none g.nodes = 0
  · obtain ⟨i1, i2, _⟩ := nodsE_zero h2
    exact ⟨by omega, by omega, i2, i1⟩
  · rw [if_neg h2] at h; exact absurd h h2


def tieLt (a b : Tie) : Bool := decide (tieO a b < 0)
theorem tiesE_step {p : Option Tie} {t : Tie} {r : List Tie} (h : tiesE p (t :: r) = 0) : tieE t = 0 ∧ tiesE (some t) r = 0 ∧ (∀ a, p = some a → tieLt a t = true) := by
  have e : tiesE p (t :: r) = if tieE t = 0 then (if (match p with | some q => decide (0 ≤ tieO q t) | none => false) then 7 else tiesE (some t) r) else tieE t := by cases p <;> rfl
  rw [e] at h
  by_cases h1 : tieE t = 0
  · rw [if_pos h1] at h
    cases p with
    | none => exact ⟨h1, h, fun a ha => by cases ha⟩
    | some q =>
      have h : (if decide (0 ≤ tieO q t) = true then (7 : Int) else tiesE (some t) r) = 0 := h
      by_cases h2 : 0 ≤ tieO q t
      · rw [if_pos (decide_eq_true h2)] at h; omega
      · rw [if_neg (fun x => h2 (of_decide_eq_true x))] at h
        exact ⟨h1, h, fun a ha => by cases ha; exact decide_eq_true (by omega)⟩
  · rw [if_neg h1] at h; exact absurd h h1
theorem tiesE_zero : ∀ {l : List Tie} {p : Option Tie}, tiesE p l = 0 → (∀ t ∈ l, tieE t = 0) ∧ chain tieLt l = true ∧ (∀ a b, p = some a → l.head? = some b → tieLt a b = true)
  | [], p, _ => ⟨by simp, rfl, by simp⟩
  | n :: r, p, h => by
    obtain ⟨s1, s3, s4⟩ := tiesE_step h
    obtain ⟨i1, i2, i3⟩ := tiesE_zero s3
    refine ⟨?_, ?_, ?_⟩
    · intro m hm
      rcases List.mem_cons.1 hm with rfl | hm
      · exact s1
      · exact i1 m hm
    · cases r with
      | nil => rfl
      | cons b r => simp only [chain, Bool.and_eq_true]; exact ⟨i3 n b rfl rfl, i2⟩
    · intro a b ha hb
      simp at hb
      subst hb
      exact s4 a ha
theorem grf_parts {g : Grf} (h : grfE g = 0) : nodsE none g.nodes = 0 ∧ tiesE none g.ties = 0 := by
  unfold grfE at h
  by_cases h1 : 60 < g.nodes.length ∨ 120 < g.ties.length
  · rw [if_pos h1] at h; cases h
  rw [if_neg h1] at h
  by_cases h2 : nodsE none g.nodes = 0
  · rw [if_pos h2] at h; exact ⟨h2, h⟩
  · rw [if_neg h2] at h; exact absurd h h2
theorem grf_ties {g : Grf} (h : grfE g = 0) : chain tieLt g.ties = true ∧ ∀ t ∈ g.ties, tieE t = 0 := by
  obtain ⟨i1, i2, _⟩ := tiesE_zero (grf_parts h).2
  exact ⟨i2, i1⟩
end Go.Proofs.YtmbeeaohidgfgaaGreatDoor
