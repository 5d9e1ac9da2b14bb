/- Parts: RfH, RlA, PutB. -/
import Derived.Test.YtngbbefpphinjaaGreatDoorMg21
import Derived.Test.YtngbbefpphinjaaGreatDoorMg24
import Derived.Test.YtngbbefpphinjaaGreatDoorMg16
import Derived.Test.YtngbbefpphinjaaGreatDoorMg10
/- Contract of the references: kinref1.Graph: what is wrong with a graph. No condition. -/
namespace Go.Proofs.YtngbbefpphinjaaGreatDoor
open Go Go.RowKit
set_option maxRecDepth 100000 in
set_option maxHeartbeats 8000000 in
theorem rgraph_any (g : Grf) (vn vt : Value) (w : World) (hg : GrfR w vn vt g) :
 Calls Tryz.prog 7 #[.agg #[vn, vt]] w fun e w' => e = .returned (.int .i64 (grfE g)) /\ Below w.heap.size w w' := by
 obtain ⟨hn, ht⟩ := hg
 obtain ⟨A, c, rfl, hlc, hcm⟩ := hn.form
 obtain ⟨A', c', rfl, hlc', hcm'⟩ := ht.form
 unfold maxLen at hcm hcm'
 have HF : Hid (grfE g = if 60 < g.nodes.length \/ 120 < g.ties.length then 4 else if nodsE none g.nodes = 0 then tiesE none g.ties else nodsE none g.nodes) := rfl
 obtain ⟨q0, q1⟩ := cell_box2 w (.slice A g.nodes.length c) (.slice A' g.ties.length c') 25
 have hb0 : Below w.heap.size w (w.alloc (.cells #[.slice A g.nodes.length c, .slice A' g.ties.length c'] 25)) := (Below.refl _ _).alloc (Nat.le_refl _) _
 by_cases h1 : 60 < g.nodes.length
 ·have HE : Hid (grfE g = 4) := by unfold Hid; rw [HF.out, if_pos (Or.inl h1)]
  have h1' : (60 : Int) < (g.nodes.length : Int) := by omega
  clear hn ht
  go_enter Tryz.func7, Tryz.ntmps7
  go_wp2_with fail
  go_ret
  exact ⟨by rw [HE.out]; rfl, hb0⟩
 have h1' : decide ((60 : Int) < (g.nodes.length : Int)) = false := by simp; omega
 have h1'' : (g.nodes.length : Int) <= 60 := by omega
 by_cases h2 : 120 < g.ties.length
 ·have HE : Hid (grfE g = 4) := by unfold Hid; rw [HF.out, if_pos (Or.inr h2)]
  have h2' : (120 : Int) < (g.ties.length : Int) := by omega
  clear hn ht
  go_enter Tryz.func7, Tryz.ntmps7
  go_wp2_with fail
  go_ret
  exact ⟨by rw [HE.out]; rfl, hb0⟩
 have h2' : decide ((120 : Int) < (g.ties.length : Int)) = false := by simp; omega
 have h2'' : (g.ties.length : Int) <= 120 := by omega
 have HG : Hid (grfE g = if nodsE none g.nodes = 0 then tiesE none g.ties else nodsE none g.nodes) := by unfold Hid; rw [HF.out, if_neg (by omega)]
 have HN0 := Lib.hid (hn.below hb0)
 have HT0 := Lib.hid (ht.below hb0)
 clear HF hn ht h1 h2
 have hw0 : w.heap.size < (w.alloc (.cells #[.slice A g.nodes.length c, .slice A' g.ties.length c'] 25)).heap.size := by simp
 go_enter Tryz.func7, Tryz.ntmps7
 go_wp2_with fail
 generalize hW : w.alloc (.cells #[.slice A g.nodes.length c, .slice A' g.ties.length c'] 25) = W at *
 clear hW
 go_loopw [3] (fun i wr => ∃ k : Nat, k <= g.nodes.length /\ i = .int .i64 k /\ Below W.heap.size W wr /\ Hid (nodsE none g.nodes = nodsE (prev g.nodes k) (g.nodes.drop k))) (fun i _ => g.nodes.length - (intOf i).toNat)
 case atStart => exact ⟨0, Nat.zero_le _, rfl, Below.refl _ _, rfl⟩
 obtain ⟨k, hk, rfl, hb, HA⟩ := hrel
 have r0 : wr.cell? ⟨w.heap.size, 0, none⟩ = some (.slice A g.nodes.length c) := cell_below hb q0
 have r1 : wr.cell? ⟨w.heap.size, 1, none⟩ = some (.slice A' g.ties.length c') := cell_below hb q1
 by_cases hlt : k < g.nodes.length
 ·obtain ⟨d, hd⟩ : ∃ d, g.nodes[k]? = some d := ⟨_, List.getElem?_eq_getElem hlt⟩
  obtain ⟨b, o, rfl, hall⟩ := nod_all (HN0.out.below hb) (by omega)
  obtain ⟨u, hid, hkd, hpr, x0, x1, x2⟩ := hall _ _ hd
  obtain ⟨Ar, cr, rfl, _, _⟩ := hpr.form
  have HS : Hid (nodsE none g.nodes = nodsE (prev g.nodes k) (d :: g.nodes.drop (k + 1))) := by rw [HA.out, drop_cons hd]; rfl
  have hlt' : (k : Int) < (g.nodes.length : Int) := by omega
  have hidc := rid_any d.id wr
  have HND : Hid (∀ W', Below wr.heap.size wr W' -> Calls Tryz.prog 42 #[.agg #[.int .i64 d.id, .string d.kind, .slice Ar d.props.length cr]] W' fun e w' => e = .returned (.int .i64 (nodE d)) /\ Below W'.heap.size W' w') := fun W' h => rnode_any d _ W' hkd (hpr.below h)
  have HP : Hid (prev g.nodes (k + 1) = some d) := hd
  clear HA hpr hid hkd
  cases h3 : idB d.id with
  | false =>
   have HE : Hid (grfE g = 1) := by
    have : nodsE none g.nodes = 1 := by rw [HS.out]; simp only [nodsE, h3, if_true]
    unfold Hid; rw [HG.out, if_neg (by rw [this]; decide), this]
   rw [h3] at hidc
   clear hall hd HS HG HND
   go_wp2_with fail
   refine hidc.mono ?_
   clear hidc
   rintro e w1 ⟨rfl, rfl⟩
   go_wp2_with fail
   go_ret
   exact ⟨by rw [HE.out]; rfl, hb0.trans (hb.mono hb0.size)⟩
  | true =>
   rw [h3] at hidc
   rcases Nat.eq_zero_or_pos k with hk0 | hk0
   ·have hkd0 : decide ((0 : Int) < (k : Int)) = false := by simp; omega
    have hkd1 : (k : Int) <= 0 := by omega
    have hkd2 : decide (0 < k) = false := by simp; omega
    have HS' : Hid (nodsE none g.nodes = if nodE d = 0 then nodsE (some d) (g.nodes.drop (k + 1)) else nodE d) := by
     rw [HS.out, hk0]; simp only [nodsE, prev, h3, Bool.true_eq_false, if_false]; rfl
    have HGO : Hid (nodE d = 0 -> nodsE none g.nodes = nodsE (prev g.nodes (k + 1)) (g.nodes.drop (k + 1))) := fun h => by rw [HS'.out, if_pos h, HP.out]
    have HST : Hid (nodE d ≠ 0 -> grfE g = nodE d) := fun h => by
     have : nodsE none g.nodes = nodE d := by rw [HS'.out, if_neg h]
     rw [HG.out, if_neg (by rw [this]; exact h), this]
    clear hall hd hk0 HS HS'
    generalize nodE d = z at *
    go_wp2_with fail
    refine hidc.mono ?_
    clear hidc
    rintro e w1 ⟨rfl, rfl⟩
    go_wp2_with fail
    go_quiet (fail)
    have hnode := HND.out (wr.drewN nq) (below_drewN (Below.refl _ _) nq)
    have hbq := below_drewN hb nq
    clear HND
    go_wp2_with fail
    refine hnode.mono ?_
    clear hnode
    rintro e w1 ⟨rfl, hb1⟩
    have hb2 := hbq.trans (hb1.mono hbq.size)
    by_cases hz : z = 0
    ·have HT := Lib.hid (HGO.out hz)
     subst hz
     clear HGO HST
     go_wp2_with fail
     go_roundw
     case rel => exact ⟨k + 1, by omega, by go_num, hb2, HT⟩
     case measure => simp [intOf]; omega
    have HE : Hid (grfE g = z) := HST.out hz
    have hzb : (z != 0) = true := by simpa using hz
    clear HGO HST hz
    go_wp2_with fail
    go_ret
    exact ⟨by rw [HE.out]; rfl, hb0.trans (hb2.mono hb0.size)⟩
   obtain ⟨p, hp⟩ : ∃ p, g.nodes[k - 1]? = some p := ⟨_, List.getElem?_eq_getElem (by omega)⟩
   obtain ⟨u', hid', _, _, y0, _, _⟩ := hall _ _ hp
   have hkd0 : (0 : Int) < (k : Int) := by omega
   have hkd1 : decide ((0 : Int) < (k : Int)) = true := by simp; omega
   have hkd2 : decide (0 < k) = true := by simp; omega
   have hpv : prev g.nodes k = some p := by
    obtain ⟨m, rfl⟩ : ∃ m, k = m + 1 := ⟨k - 1, by omega⟩
    exact hp
   by_cases h5 : d.id <= p.id
   ·have h5' : decide (d.id <= p.id) = true := by simpa using h5
    have HE : Hid (grfE g = 7) := by
     have : nodsE none g.nodes = 7 := by rw [HS.out, hpv]; simp only [nodsE, h3, h5', Bool.true_eq_false, if_false, if_true]
     unfold Hid; rw [HG.out, if_neg (by rw [this]; decide), this]
    clear hall hd hp HS hpv HND HG
    go_wp2_with fail
    refine hidc.mono ?_
    clear hidc
    rintro e w1 ⟨rfl, rfl⟩
    go_wp2_with fail
    go_quiet (fail)
    go_wp2_with fail
    go_ret
    exact ⟨by rw [HE.out]; rfl, hb0.trans ((below_drewN hb _).mono hb0.size)⟩
   have h5' : decide (d.id <= p.id) = false := by simpa using h5
   have h5'' : p.id < d.id := by omega
   have HS' : Hid (nodsE none g.nodes = if nodE d = 0 then nodsE (some d) (g.nodes.drop (k + 1)) else nodE d) := by
    unfold Hid; rw [HS.out, hpv]; simp only [nodsE, h3, h5', Bool.true_eq_false, if_false, Bool.false_eq_true]
   have HGO : Hid (nodE d = 0 -> nodsE none g.nodes = nodsE (prev g.nodes (k + 1)) (g.nodes.drop (k + 1))) := fun h => by rw [HS'.out, if_pos h, HP.out]
   have HST : Hid (nodE d ≠ 0 -> grfE g = nodE d) := fun h => by
    have : nodsE none g.nodes = nodE d := by rw [HS'.out, if_neg h]
    rw [HG.out, if_neg (by rw [this]; exact h), this]
   clear hall hd hp HS hpv h5 HS'
   generalize nodE d = z at *
   go_wp2_with fail
   refine hidc.mono ?_
   clear hidc
   rintro e w1 ⟨rfl, rfl⟩
   go_wp2_with fail
   go_quiet (fail)
   have hnode := HND.out (wr.drewN nq) (below_drewN (Below.refl _ _) nq)
   have hbq := below_drewN hb nq
   clear HND
   go_wp2_with fail
   refine hnode.mono ?_
   clear hnode
   rintro e w1 ⟨rfl, hb1⟩
   have hb2 := hbq.trans (hb1.mono hbq.size)
   by_cases hz : z = 0
   ·have HT := Lib.hid (HGO.out hz)
    subst hz
    clear HGO HST
    go_wp2_with fail
    go_roundw
    case rel => exact ⟨k + 1, by omega, by go_num, hb2, HT⟩
    case measure => simp [intOf]; omega
   have HE : Hid (grfE g = z) := HST.out hz
   have hzb : (z != 0) = true := by simpa using hz
   clear HGO HST hz
   go_wp2_with fail
   go_ret
   exact ⟨by rw [HE.out]; rfl, hb0.trans (hb2.mono hb0.size)⟩
 have hkl : k = g.nodes.length := by omega
 subst hkl
 have HT : Hid (grfE g = tiesE none g.ties) := by
  have : nodsE none g.nodes = 0 := by rw [HA.out, List.drop_length]; rfl
  unfold Hid; rw [HG.out, if_pos this]
 clear HG HA HN0
 obtain ⟨wo, rfl⟩ : ∃ wo : World, wo = wr := ⟨_, rfl⟩
 go_wp2_with fail
 go_loopw [6] (fun i wr => ∃ k : Nat, k <= g.ties.length /\ i = .int .i64 k /\ Below W.heap.size W wr /\ Hid (tiesE none g.ties = tiesE (prev g.ties k) (g.ties.drop k))) (fun i _ => g.ties.length - (intOf i).toNat)
 case atStart => exact ⟨0, Nat.zero_le _, rfl, hb, rfl⟩
 clear r0 r1
 obtain ⟨k, hk, rfl, hc, HA⟩ := hrel
 have r1 : wr.cell? ⟨w.heap.size, 1, none⟩ = some (.slice A' g.ties.length c') := cell_below hc q1
 by_cases hlt : k < g.ties.length
 ·obtain ⟨d, hd⟩ : ∃ d, g.ties[k]? = some d := ⟨_, List.getElem?_eq_getElem hlt⟩
  obtain ⟨b, o, rfl, hall⟩ := tie_all (HT0.out.below hc) (by omega)
  obtain ⟨hok, x0, x1, x2⟩ := hall _ _ hd
  have HS : Hid (tiesE none g.ties = tiesE (prev g.ties k) (d :: g.ties.drop (k + 1))) := by rw [HA.out, drop_cons hd]; rfl
  have HP : Hid (prev g.ties (k + 1) = some d) := hd
  have htie := rtie_any d wr hok.1
  have hlt' : (k : Int) < (g.ties.length : Int) := by omega
  clear HA
  by_cases h4 : tieE d = 0
  case neg =>
   have HE : Hid (grfE g = tieE d) := by
    have : tiesE none g.ties = tieE d := by rw [HS.out]; simp only [tiesE, h4, if_false]
    unfold Hid; rw [HT.out, this]
   clear hall hd HS
   generalize tieE d = z at *
   have hzb : (z != 0) = true := by simpa using h4
   clear h4
   go_wp2_with fail
   refine htie.mono ?_
   clear htie
   rintro e w1 ⟨rfl, hb1⟩
   go_wp2_with fail
   go_ret
   exact ⟨by rw [HE.out]; rfl, hb0.trans ((hc.trans (hb1.mono hc.size)).mono hb0.size)⟩
  rw [h4] at htie
  rcases Nat.eq_zero_or_pos k with hk0 | hk0
  ·have hkd0 : ((k : Int) == 0) = true := by simp; omega
   have hkd2 : (k == 0) = true := by simp; omega
   have hkd1 : (k : Int) <= 0 := by omega
   have HT' : Hid (tiesE none g.ties = tiesE (prev g.ties (k + 1)) (g.ties.drop (k + 1))) := by
    unfold Hid; rw [HS.out, HP.out, hk0]; simp [tiesE, prev, h4]
   have hkd3 : decide (k = 0) = true := by simp; omega
   clear hall hd hk0 HS h4 HP
   go_wp2_with fail
   refine htie.mono ?_
   clear htie
   rintro e w1 ⟨rfl, hb1⟩
   have hb2 := hc.trans (hb1.mono hc.size)
   go_wp2_with fail
   go_quiet (fail)
   go_wp2_with fail
   go_roundw
   case rel => exact ⟨k + 1, by omega, by go_num, below_drewN hb2 _, HT'⟩
   case measure => simp [intOf]; omega
  obtain ⟨p, hp⟩ : ∃ p, g.ties[k - 1]? = some p := ⟨_, List.getElem?_eq_getElem (by omega)⟩
  obtain ⟨hok', y0, y1, y2⟩ := hall _ _ hp
  have hkd0 : ((k : Int) == 0) = false := by simp; omega
  have hkd3 : (0 : Int) < (k : Int) := by omega
  have hkd4 : ¬ k = 0 := by omega
  have hpv : prev g.ties k = some p := by
   obtain ⟨m, rfl⟩ : ∃ m, k = m + 1 := ⟨k - 1, by omega⟩
   exact hp
  have hord := fun (x : World) => rless_any p d x
  have HNO : Hid (decide (tieO p d < 0) = false -> grfE g = 7) := fun h => by
   have h5' : decide (0 <= tieO p d) = true := decide_eq_true (by have := of_decide_eq_false h; omega)
   have : tiesE none g.ties = 7 := by rw [HS.out, hpv]; simp only [tiesE, h4, h5', if_true]
   rw [HT.out, this]
  have HYES : Hid (decide (tieO p d < 0) = true -> tiesE none g.ties = tiesE (prev g.ties (k + 1)) (g.ties.drop (k + 1))) := fun h => by
   have h5' : decide (0 <= tieO p d) = false := decide_eq_false (by have := of_decide_eq_true h; omega)
   rw [HS.out, HP.out, hpv]; simp only [tiesE, h4, h5', if_true, Bool.false_eq_true, if_false]
  clear hall hd hp HS hpv h4 HP hok hok'
  generalize decide (tieO p d < 0) = q at *
  go_wp2_with fail
  refine htie.mono ?_
  clear htie
  rintro e w1 ⟨rfl, hb1⟩
  have hb2 := hc.trans (hb1.mono hc.size)
  have r1 := cell_below hb1 r1
  have x0 := cell_below hb1 x0
  have x1 := cell_below hb1 x1
  have x2 := cell_below hb1 x2
  have y0 := cell_below hb1 y0
  have y1 := cell_below hb1 y1
  have y2 := cell_below hb1 y2
  go_wp2_with fail
  refine wp_mid_g 14 _ rfl rfl (by kernel_rfl) ?_
  simp only [List.take_succ_cons, List.take_zero, List.drop_succ_cons, List.drop_zero]
  repeat (go_big_quiet_step (fail))
  refine wpQuiet_nil ?_
  refine ⟨by simp [Region.wanted, yielded, go_sem], ?_⟩
  intro _ hw'
  obtain ⟨nq, hw''⟩ := hw'
  subst hw''
  intro K hK
  have hk1 := hord (w1.drewN nq)
  clear hord
  go_wp2_with fail
  refine hk1.mono ?_
  clear hk1
  rintro e w2 ⟨rfl, hb3⟩
  have hb12 := (below_drewN (Below.refl w1.heap.size w1) nq).trans hb3
  refine hK _ _ ?_
  repeat (go_big_quiet_step (fail))
  refine wpQuiet_nil ?_
  intro _ hw'
  obtain ⟨nq2, hw''⟩ := hw'
  subst hw''
  clear hK
  have hbX := below_drewN hb12 nq2
  generalize w2.drewN nq2 = w3 at *
  have hb4 := hb2.trans (hbX.mono hb2.size)
  clear hb3 hb12 hbX r1 x0 x1 x2 y0 y1 y2
  cases q with
  | false =>
   have HE : Hid (grfE g = 7) := HNO.out rfl
   clear HNO HYES
   go_wp2_with fail
   go_ret
   exact ⟨by rw [HE.out]; rfl, hb0.trans (hb4.mono hb0.size)⟩
  | true =>
   have HT' := Lib.hid (HYES.out rfl)
   clear HNO HYES
   go_wp2_with fail
   go_roundw
   case rel => exact ⟨k + 1, by omega, by go_num, hb4, HT'⟩
   case measure => simp [intOf]; omega
 have hkl : k = g.ties.length := by omega
 subst hkl
 have HE : Hid (grfE g = 0) := by
  have : tiesE none g.ties = 0 := by rw [HA.out, List.drop_length]; rfl
  unfold Hid; rw [HT.out, this]
 clear HA HT
 go_wp2_with fail
 go_ret
 exact ⟨by rw [HE.out]; rfl, hb0.trans (hc.mono hb0.size)⟩
def RetAI (w0 : World) (g : Grf) (n : Nat) (err : Int) (w : World) (e : Ending) (w' : World) : Prop := ∃ vn vt, e = .returned (.tuple #[.agg #[vn, vt], .int .i64 n, .int .i64 err]) /\ GrfS w0 w' vn vt g /\ Below w.heap.size w w'
def BoxS (w0 w : World) (b : Nat) (g : Grf) (wx : World) : Prop := ∃ vn vt, wx.heap[b]? = some (.cells #[vn, vt] 25 (0, 0)) /\ GrfS w0 wx vn vt g /\ w.heap.size <= b /\ Below w.heap.size w wx
theorem BoxS.late {w0 w w3 : World} {g : Grf} {vn vt : Value} (h : Below w.heap.size w w3) (hr : GrfS w0 w3 vn vt g) : BoxS w0 w w3.heap.size g (w3.alloc (.cells #[vn, vt] 25)) :=
 ⟨vn, vt, heap_alloc_new _ _, hr.stay fun _ hW => hW.from ((Below.refl _ _).alloc (Nat.le_refl _) _), h.size, h.alloc h.size _⟩
theorem GrfS.set {w0 w3 : World} {g : Grf} {vn vt u : Value} {b i : Nat} {cs : Array Value} {fr : Nat × Nat} (hr : GrfS w0 w3 vn vt g) (hq : w3.heap[b]? = some (.cells cs 25 fr)) : GrfS w0 (w3.setCell ⟨b, i, none⟩ u) vn vt g :=
 hr.stay fun _ hW => ⟨hW.1, fun T hT => (Same.setCell (p := ⟨b, i, none⟩) hq hT _).trans (hW.2 T hT)⟩
theorem BoxS.soon {w0 w w3 : World} {g : Grf} {vn vt c0 c1 : Value} {b : Nat} (h : Below w.heap.size w w3) (hb : w.heap.size <= b) (hq : w3.heap[b]? = some (.cells #[c0, c1] 25 (0, 0))) (hr : GrfS w0 w3 vn vt g) :
 BoxS w0 w b g ((w3.setCell ⟨b, 0, none⟩ vn).setCell ⟨b, 1, none⟩ vt) :=
 ⟨vn, vt, setCell_block (setCell_block hq 0 vn) 1 vt, (hr.set hq).set (setCell_block hq 0 vn), hb, (h.setCell (p := ⟨b, 0, none⟩) hb _).setCell (p := ⟨b, 1, none⟩) hb _⟩
structure RInv (wB w : World) (g : Grf) (l : List Opr) (k : Nat) (gk : Grf) (vn vt : Value) (wr : World) : Prop where
 q : wr.heap[w.heap.size]? = some (.cells #[vn, vt] 25 (0, 0))
 p : wr.heap[w.heap.size + 1]? = some (.cells #[.slice none 0 0, .slice none 0 0] 25 (0, 0))
 o : GrfS wB wr vn vt gk
 r : grfE gk = 0
 b : Below w.heap.size w wr
 ee : allE g l = allE gk (l.drop k)
 gg : allG g l = allG gk (l.drop k)
 ii : allI g l = allI gk (l.drop k) + k
set_option maxRecDepth 100000 in
set_option maxHeartbeats 16000000 in
theorem rall_any (g : Grf) (l : List Opr) (vn vt vl : Value) (wB w : World) (hbB : Below wB.heap.size wB w) (hG : GrfR wB vn vt g) (hL : Sl oprL wB vl l) :
 Calls Tryz.prog 12 #[.agg #[vn, vt], vl] w (RetAI wB (dallG g l) (dallI g l) (dallE g l) w) := by
 obtain ⟨An, cn, rfl, _, _⟩ := hG.1.form
 obtain ⟨At, ct, rfl, _, _⟩ := hG.2.form
 obtain ⟨Al, cl, rfl, hlc, hlm⟩ := hL.form
 unfold maxLen at hlm
 obtain ⟨W0, hW0⟩ : ∃ W0, W0 = (w.alloc (.cells #[.slice An g.nodes.length cn, .slice At g.ties.length ct] 25)).alloc (.cells #[.slice none 0 0, .slice none 0 0] 25) := ⟨_, rfl⟩
 have hb0 : Below w.heap.size w W0 := by rw [hW0]; exact ((Below.refl _ _).alloc (Nat.le_refl _) _).alloc (by simp) _
 have g0 : W0.heap[w.heap.size]? = some (.cells #[.slice An g.nodes.length cn, .slice At g.ties.length ct] 25 (0, 0)) := by
  rw [hW0, Below.heap_alloc _ _ _ (by simp)]; exact heap_alloc_new _ _
 have g1 : W0.heap[w.heap.size + 1]? = some (.cells #[.slice none 0 0, .slice none 0 0] 25 (0, 0)) := by
  have := heap_alloc_new (w.alloc (.cells #[.slice An g.nodes.length cn, .slice At g.ties.length ct] 25)) (.cells #[.slice none 0 0, .slice none 0 0] 25); rw [hW0]; simpa using this
 have hsz : W0.heap.size = w.heap.size + 2 := by rw [hW0]; simp
 have hW0' := hW0.symm
 have hw0 := hb0.size
 have HDE : Hid (dallE g l = if 40 < l.length then 4 else if grfE g = 0 then allE g l else grfE g) := rfl
 have HDG : Hid (dallG g l = if dallE g l = 0 then allG g l else ⟨[], []⟩) := rfl
 have HDI : Hid (dallI g l = if 40 < l.length then 0 else if grfE g = 0 then (if allE g l = 0 then 0 else allI g l) else 0) := rfl
 generalize dallE g l = de at *
 generalize dallG g l = dg at *
 generalize dallI g l = di at *
 have HLW := Lib.hid hL
 have hck := rgraph_any g _ _ W0 (hG.below (hbB.trans (hb0.mono hbB.size)))
 have G0 := Lib.hid g0
 have G1 := Lib.hid g1
 have HGW := Lib.hid hG
 clear hG hL hW0
 by_cases hl40 : 40 < l.length
 ·have HEE : Hid (de = 4 /\ dg = ⟨[], []⟩ /\ (di : Int) = 0) := by
   have h0 : de = 4 := by rw [HDE.out, if_pos hl40]
   exact ⟨h0, by rw [HDG.out, h0]; rfl, by rw [HDI.out, if_pos hl40]; rfl⟩
  have hl40' : (40 : Int) < (l.length : Int) := by omega
  clear HDE HDG HDI hck g0
  go_enter Tryz.func12, Tryz.ntmps12
  go_upto_region 1 with fail
  clear hW0'
  have a0 := block_free (g1) 0
  have a1 := block_free (g1) 1
  have a2 := block_cell (g1) 0
  have a3 := block_cell (g1) 1
  have HP4 := Lib.hid (setCell_block (setCell_block (g1) 0 (.slice none 0 0)) 1 (.slice none 0 0))
  clear g1
  go_wp2_with fail
  have k2 := block_cell HP4.out 0
  have k3 := block_cell HP4.out 1
  exact bodyPost_ret (v := .tuple #[.agg #[.slice none 0 0, .slice none 0 0], .int .i64 (0), .int .i64 (4)]) (by simp [results, Tryz.results12, go_sem, k2, k3]) rfl
   ⟨.slice none 0 0, .slice none 0 0, by rw [HEE.out.1, HEE.out.2.2], by rw [HEE.out.2.1]; exact ⟨SlS.nil _ _, SlS.nil _ _⟩, ((hb0).setCell (p := ⟨w.heap.size + 1, 0, none⟩) (by show w.heap.size <= w.heap.size + 1; omega) _).setCell (p := ⟨w.heap.size + 1, 1, none⟩) (by show w.heap.size <= w.heap.size + 1; omega) _⟩
 have hl40' : ¬ ((40 : Int) < (l.length : Int)) := by omega
 have x0 := block_cell g0 0
 have x1 := block_cell g0 1
 clear g0 g1
 go_enter Tryz.func12, Tryz.ntmps12
 go_wp2_with fail
 clear hW0'
 refine hck.mono ?_
 clear hck x0 x1
 rintro e w1 ⟨rfl, hb1⟩
 have hB1 := hb0.trans (hb1.mono hw0)
 have m0 := (hb1.block _ (geB G0.out)).trans G0.out
 have m1 := (hb1.block _ (geB G1.out)).trans G1.out
 have hs1 := hb1.size
 by_cases he : grfE g = 0
 case neg =>
  have HEE : Hid (de = grfE g /\ dg = ⟨[], []⟩ /\ (di : Int) = 0) := by
   have h0 : de = grfE g := by rw [HDE.out, if_neg hl40, if_neg he]
   exact ⟨h0, by rw [HDG.out, h0, if_neg he], by rw [HDI.out, if_neg hl40, if_neg he]; rfl⟩
  have hnb : (grfE g != 0) = true := by simpa using he
  clear he HDE HDG HDI m0
  have a0 := block_free (m1) 0
  have a1 := block_free (m1) 1
  have a2 := block_cell (m1) 0
  have a3 := block_cell (m1) 1
  have HP4 := Lib.hid (setCell_block (setCell_block (m1) 0 (.slice none 0 0)) 1 (.slice none 0 0))
  clear m1
  go_wp2_with fail
  have k2 := block_cell HP4.out 0
  have k3 := block_cell HP4.out 1
  exact bodyPost_ret (v := .tuple #[.agg #[.slice none 0 0, .slice none 0 0], .int .i64 (0), .int .i64 (grfE g)]) (by simp [results, Tryz.results12, go_sem, k2, k3]) rfl
   ⟨.slice none 0 0, .slice none 0 0, by rw [HEE.out.1, HEE.out.2.2], by rw [HEE.out.2.1]; exact ⟨SlS.nil _ _, SlS.nil _ _⟩, ((hB1).setCell (p := ⟨w.heap.size + 1, 0, none⟩) (by show w.heap.size <= w.heap.size + 1; omega) _).setCell (p := ⟨w.heap.size + 1, 1, none⟩) (by show w.heap.size <= w.heap.size + 1; omega) _⟩
 have hnb : (grfE g != 0) = false := by simpa using he
 have HD2 : Hid (de = allE g l /\ dg = (if de = 0 then allG g l else ⟨[], []⟩) /\ di = (if allE g l = 0 then 0 else allI g l)) := ⟨by rw [HDE.out, if_neg hl40, if_pos he], HDG.out, by rw [HDI.out, if_neg hl40, if_pos he]⟩
 have HI0 : Hid (RInv wB w g l 0 g (.slice An g.nodes.length cn) (.slice At g.ties.length ct) w1) := ⟨m0, m1, GrfR.s HGW.out, he, hB1, rfl, rfl, rfl⟩
 clear HDE HDG HDI he m0 m1
 have hB1s : w.heap.size + 2 <= w1.heap.size := by omega
 go_wp2_with fail
 go_loopw [8] (fun i wr => ∃ (k : Nat) (gk : Grf) (vn vt : Value), k <= l.length /\ i = .int .i64 k /\ w.heap.size + 2 <= wr.heap.size /\ RInv wB w g l k gk vn vt wr) (fun i _ => l.length - (intOf i).toNat)
 case atStart => exact ⟨0, g, _, _, Nat.zero_le _, rfl, hB1s, HI0.out⟩
 clear HI0 hb1 hB1 hB1s hs1 hsz
 obtain ⟨k, gk, vnk, vtk, hk, rfl, hws, hI⟩ := hrel
 have hgr := hI.o.r (hbB.trans (hI.b.mono hbB.size))
 obtain ⟨A4, c4, rfl, _, _⟩ := hgr.1.form
 obtain ⟨A5, c5, rfl, _, _⟩ := hgr.2.form
 have HI := Lib.hid hI
 have hbw := hI.b
 have hbw2 := hbB.trans (hbw.mono hbB.size)
 clear hI hgr
 by_cases hlt : k < l.length
 ·obtain ⟨⟨what, node, prop, tie⟩, hd⟩ : ∃ d, l[k]? = some d := ⟨_, List.getElem?_eq_getElem hlt⟩
  have hlt' : (k : Int) < (l.length : Int) := by omega
  obtain ⟨bo, oo, vr, hA, hor, hcells⟩ := opr_at HLW.out hd
  subst hA
  obtain ⟨hN1, hN2, hN3⟩ := all_at hd gk
  have HN := Lib.hid (And.intro hN1 (And.intro hN2 hN3))
  obtain ⟨Ar, cr, hvr, _, _⟩ := hor.r.form
  have hvr : vr = .slice Ar node.props.length cr := hvr
  subst hvr
  have q0 : wr.cell? ⟨bo, oo + k * 11, none⟩ = some (.int .i64 what) := cell_below hbw2 (by have := hcells 0 (.int .i64 what) rfl; simpa using this)
  have q1 : wr.cell? ⟨bo, oo + k * 11 + 1, none⟩ = some (.int .i64 node.id) := cell_below hbw2 (hcells 1 _ rfl)
  have q2 : wr.cell? ⟨bo, oo + k * 11 + 2, none⟩ = some (.string node.kind) := cell_below hbw2 (hcells 2 _ rfl)
  have q3 : wr.cell? ⟨bo, oo + k * 11 + 3, none⟩ = some (.slice Ar node.props.length cr) := cell_below hbw2 (hcells 3 _ rfl)
  have q4 : wr.cell? ⟨bo, oo + k * 11 + 4, none⟩ = some (.string prop.name) := cell_below hbw2 (hcells 4 _ rfl)
  have q5 : wr.cell? ⟨bo, oo + k * 11 + 5, none⟩ = some (.int .i64 prop.v.ty) := cell_below hbw2 (hcells 5 _ rfl)
  have q6 : wr.cell? ⟨bo, oo + k * 11 + 6, none⟩ = some (.int .i64 prop.v.n) := cell_below hbw2 (hcells 6 _ rfl)
  have q7 : wr.cell? ⟨bo, oo + k * 11 + 7, none⟩ = some (.string prop.v.s) := cell_below hbw2 (hcells 7 _ rfl)
  have q8 : wr.cell? ⟨bo, oo + k * 11 + 8, none⟩ = some (.string tie.bond) := cell_below hbw2 (hcells 8 _ rfl)
  have q9 : wr.cell? ⟨bo, oo + k * 11 + 9, none⟩ = some (.int .i64 tie.src) := cell_below hbw2 (hcells 9 _ rfl)
  have q10 : wr.cell? ⟨bo, oo + k * 11 + 10, none⟩ = some (.int .i64 tie.dst) := cell_below hbw2 (hcells 10 _ rfl)
  have x0 := block_cell HI.out.q 0
  have x1 := block_cell HI.out.q 1
  have HDO : Hid (∀ W, Below wr.heap.size wr W -> Calls Tryz.prog 8 #[.agg #[.slice A4 gk.nodes.length c4, .slice A5 gk.ties.length c5], .agg #[.int .i64 what, .int .i64 node.id, .string node.kind, .slice Ar node.props.length cr, .string prop.name, .int .i64 prop.v.ty, .int .i64 prop.v.n, .string prop.v.s, .string tie.bond, .int .i64 tie.src, .int .i64 tie.dst]] W
   (RetGI wB (doG gk ⟨what, node, prop, tie⟩) (doE gk ⟨what, node, prop, tie⟩) W)) := fun W hW =>
   rdo_any gk ⟨what, node, prop, tie⟩ _ _ (.slice Ar node.props.length cr) wB W (hbw2.trans (hW.mono hbw2.size)) (HI.out.o.stay fun _ h => h.from hW) hor HI.out.r
  obtain ⟨d1, d2, d3⟩ := doE_right HI.out.r ⟨what, node, prop, tie⟩
  have HD3 := Lib.hid (And.intro d1 (And.intro d2 d3))
  generalize hge : doE gk ⟨what, node, prop, tie⟩ = oe at *
  generalize hgg : doG gk ⟨what, node, prop, tie⟩ = og at *
  have hbd : Below wr.heap.size wr wr.drew := (Below.refl _ _).drew
  have hbx : Below wr.heap.size wr (wr.alloc (.cells #[.slice none 0 0, .slice none 0 0] 25)).drew := ((Below.refl _ _).alloc (Nat.le_refl _) _).drew
  have hzx : ((wr.alloc (.cells #[.slice none 0 0, .slice none 0 0] 25)).drew).heap[wr.heap.size]? = some (.cells #[.slice none 0 0, .slice none 0 0] 25 (0, 0)) := heap_alloc_new wr _
  have hn1 : wr.heap.size ≠ w.heap.size := by omega
  have hn2 : wr.heap.size ≠ bo := by have : bo < wr.heap.size := World.block_lt_of_cell? _ _ q0; omega
  have hkeep := (And.intro (cell_below hbd x0) (And.intro (cell_below hbd x1) (And.intro (cell_below hbd q0) (And.intro (cell_below hbd q1) (And.intro (cell_below hbd q2) (And.intro (cell_below hbd q3) (And.intro (cell_below hbd q4) (And.intro (cell_below hbd q5) (And.intro (cell_below hbd q6) (And.intro (cell_below hbd q7) (And.intro (cell_below hbd q8) (And.intro (cell_below hbd q9) (cell_below hbd q10)))))))))))))
  clear hd hcells hor hN1 hN2 hN3 d1 d2 d3 hge hgg
  go_upto_region 9 with fail
  go_cut [9, 10] from 28 to 35 (fun p z wx => ∃ b, p = .pointer (some ⟨b, 0, none⟩) /\ z = .int .i64 oe /\ BoxS wB wr b og wx)
  case first =>
   go_region_held3 (fun w' => w'.cell? ⟨w.heap.size, 0, none⟩ = some (.slice A4 gk.nodes.length c4) /\ w'.cell? ⟨w.heap.size, 1, none⟩ = some (.slice A5 gk.ties.length c5) /\ w'.cell? ⟨bo, oo + k * 11, none⟩ = some (.int .i64 what) /\ w'.cell? ⟨bo, oo + k * 11 + 1, none⟩ = some (.int .i64 node.id) /\ w'.cell? ⟨bo, oo + k * 11 + 2, none⟩ = some (.string node.kind) /\ w'.cell? ⟨bo, oo + k * 11 + 3, none⟩ = some (.slice Ar node.props.length cr) /\ w'.cell? ⟨bo, oo + k * 11 + 4, none⟩ = some (.string prop.name) /\ w'.cell? ⟨bo, oo + k * 11 + 5, none⟩ = some (.int .i64 prop.v.ty) /\ w'.cell? ⟨bo, oo + k * 11 + 6, none⟩ = some (.int .i64 prop.v.n) /\ w'.cell? ⟨bo, oo + k * 11 + 7, none⟩ = some (.string prop.v.s) /\ w'.cell? ⟨bo, oo + k * 11 + 8, none⟩ = some (.string tie.bond) /\ w'.cell? ⟨bo, oo + k * 11 + 9, none⟩ = some (.int .i64 tie.src) /\ w'.cell? ⟨bo, oo + k * 11 + 10, none⟩ = some (.int .i64 tie.dst))
    (first
      | exact hkeep
      | go_keep)
    (first
      | (go_at_call 8
         first
           | (refine (HDO.out _ hbd).mono ?_
              rintro e w5 ⟨un5, ut5, rfl, how5, hb5⟩
              obtain ⟨A6, c6, _, hv6, _, _, _⟩ := how5.1
              subst hv6
              obtain ⟨A7, c7, _, hv7, _, _, _⟩ := how5.2
              subst hv7
              have hb25 := hbd.trans (hb5.mono hbd.size)
              have hkeep := (And.intro (cell_below hb25 x0) (And.intro (cell_below hb25 x1) (And.intro (cell_below hb25 q0) (And.intro (cell_below hb25 q1) (And.intro (cell_below hb25 q2) (And.intro (cell_below hb25 q3) (And.intro (cell_below hb25 q4) (And.intro (cell_below hb25 q5) (And.intro (cell_below hb25 q6) (And.intro (cell_below hb25 q7) (And.intro (cell_below hb25 q8) (And.intro (cell_below hb25 q9) (cell_below hb25 q10)))))))))))))
              have hfin := BoxS.late hb25 how5)
           | (refine (HDO.out _ hbx).mono ?_
              rintro e w5 ⟨un5, ut5, rfl, how5, hb5⟩
              obtain ⟨A6, c6, _, hv6, _, _, _⟩ := how5.1
              subst hv6
              obtain ⟨A7, c7, _, hv7, _, _, _⟩ := how5.2
              subst hv7
              have hb25 := hbx.trans (hb5.mono hbx.size)
              have hz5 := (hb5.block _ (geB hzx)).trans hzx
              have a0 := block_free hz5 0
              have a1 := block_free hz5 1
              have a3 := block_cell hz5 0
              have a4 := block_cell hz5 1
              have hkeep := (And.intro (cell_below hb25 x0) (And.intro (cell_below hb25 x1) (And.intro (cell_below hb25 q0) (And.intro (cell_below hb25 q1) (And.intro (cell_below hb25 q2) (And.intro (cell_below hb25 q3) (And.intro (cell_below hb25 q4) (And.intro (cell_below hb25 q5) (And.intro (cell_below hb25 q6) (And.intro (cell_below hb25 q7) (And.intro (cell_below hb25 q8) (And.intro (cell_below hb25 q9) (cell_below hb25 q10)))))))))))))
              have hfin := BoxS.soon hb25 (Nat.le_refl _) hz5 how5)))
   all_goals
    clear hkeep hb5 hb25 HDO hbd hbx hzx how5
    go_wp2_with fail
    go_meet
    exact ⟨_, rfl, rfl, hfin⟩
  case rest =>
  obtain ⟨b5, rfl, rfl, un5, ut5, hq5, how5, hbb, hb5⟩ := hcut
  obtain ⟨w5, rfl⟩ : ∃ x : World, x = wc := ⟨_, rfl⟩
  have hqx := (hb5.block _ (geB HI.out.q)).trans HI.out.q
  have hpx := (hb5.block _ (geB HI.out.p)).trans HI.out.p
  have hbw5 := hbw.trans (hb5.mono hbw.size)
  have hs5 := hb5.size
  clear x0 x1 q0 q1 q2 q3 q4 q5 q6 q7 q8 q9 q10 hkeep HDO hbd hbx hzx hn1 hn2
  by_cases hoe : oe = 0
  ·obtain ⟨A6, c6, _, hv6, _, _, _⟩ := how5.1
   subst hv6
   obtain ⟨A7, c7, _, hv7, _, _, _⟩ := how5.2
   subst hv7
   have hE : RInv wB w g l (k + 1) og (.slice A6 og.nodes.length c6) (.slice A7 og.ties.length c7) ((w5.setCell ⟨w.heap.size, 0, none⟩ (.slice A6 og.nodes.length c6)).setCell ⟨w.heap.size, 1, none⟩ (.slice A7 og.ties.length c7)) := by
    obtain ⟨d1, d2, d3⟩ := HD3.out
    have h0 : opE gk ⟨what, node, prop, tie⟩ = 0 := by rw [<- d1]; exact hoe
    have hog := d3 h0
    obtain ⟨e1, e2, e3⟩ := HN.out
    rw [if_pos h0, <- hog] at e1 e2 e3
    refine ⟨setCell_block (setCell_block hqx 0 _) 1 _, ?_, (how5.set hqx).set (setCell_block hqx 0 _), ?_, (hbw5.setCell (p := ⟨w.heap.size, 0, none⟩) (Nat.le_refl _) _).setCell (p := ⟨w.heap.size, 1, none⟩) (Nat.le_refl _) _, by rw [HI.out.ee, e1], by rw [HI.out.gg, e2], by rw [HI.out.ii, e3]; omega⟩
    ·rw [Below.heap_setCell _ _ _ _ (by show w.heap.size + 1 ≠ w.heap.size; omega), Below.heap_setCell _ _ _ _ (by show w.heap.size + 1 ≠ w.heap.size; omega)]; exact hpx
    rw [hog]; exact op_right HI.out.r h0
   have HE := Lib.hid hE
   have HSZ : Hid (w.heap.size + 2 <= ((w5.setCell ⟨w.heap.size, 0, none⟩ (.slice A6 og.nodes.length c6)).setCell ⟨w.heap.size, 1, none⟩ (.slice A7 og.ties.length c7)).heap.size) := by unfold Hid; simp [World.setCell]; omega
   have a0 := block_free hqx 0
   have a1 := block_free hqx 1
   have a2 := block_cell hqx 0
   have a3 := block_cell hqx 1
   have a4 := block_cell hq5 0
   have a5 := block_cell hq5 1
   subst hoe
   clear hE hqx hpx hq5 how5 hb5 hbw5 HI HD3 HN
   go_wp2_with fail
   go_roundw
   case rel => exact ⟨k + 1, og, _, _, by omega, by go_num, HSZ.out, HE.out⟩
   case measure => simp [intOf]; omega
  have HEE : Hid (de = oe /\ dg = ⟨[], []⟩ /\ (di : Int) = k) := by
   obtain ⟨d1, d2, d3⟩ := HD3.out
   have h1 : opE gk ⟨what, node, prop, tie⟩ ≠ 0 := by rw [<- d1]; exact hoe
   obtain ⟨e1, e2, e3⟩ := HN.out
   rw [if_neg h1] at e1 e3
   have h0 : de = oe := by rw [HD2.out.1, HI.out.ee, e1, d1]
   refine ⟨h0, by rw [HD2.out.2.1, h0, if_neg hoe], ?_⟩
   rw [HD2.out.2.2, <- HD2.out.1, h0, if_neg hoe, HI.out.ii, e3]; omega
  have hnb2 : (oe != 0) = true := by simpa using hoe
  clear HD3 HN hqx hq5 how5 hb5 hoe HD2
  have a0 := block_free (hpx) 0
  have a1 := block_free (hpx) 1
  have a2 := block_cell (hpx) 0
  have a3 := block_cell (hpx) 1
  have HP4 := Lib.hid (setCell_block (setCell_block (hpx) 0 (.slice none 0 0)) 1 (.slice none 0 0))
  clear hpx
  go_wp2_with fail
  have k2 := block_cell HP4.out 0
  have k3 := block_cell HP4.out 1
  exact bodyPost_ret (v := .tuple #[.agg #[.slice none 0 0, .slice none 0 0], .int .i64 ((k : Int)), .int .i64 (oe)]) (by simp [results, Tryz.results12, go_sem, k2, k3]) rfl
   ⟨.slice none 0 0, .slice none 0 0, by rw [HEE.out.1, HEE.out.2.2], by rw [HEE.out.2.1]; exact ⟨SlS.nil _ _, SlS.nil _ _⟩, ((hbw5).setCell (p := ⟨w.heap.size + 1, 0, none⟩) (by show w.heap.size <= w.heap.size + 1; omega) _).setCell (p := ⟨w.heap.size + 1, 1, none⟩) (by show w.heap.size <= w.heap.size + 1; omega) _⟩
 obtain rfl : k = l.length := by omega
 have HEE : Hid (de = 0 /\ dg = gk /\ (di : Int) = 0) := by
  have e1 := HI.out.ee
  have e2 := HI.out.gg
  rw [List.drop_length] at e1 e2
  have e1 : allE g l = 0 := e1
  have e2 : allG g l = gk := e2
  have h0 : de = 0 := by rw [HD2.out.1, e1]
  exact ⟨h0, by rw [HD2.out.2.1, if_pos h0, e2], by rw [HD2.out.2.2, if_pos e1]; rfl⟩
 have x0 := block_cell HI.out.q 0
 have x1 := block_cell HI.out.q 1
 have a0 := block_free HI.out.p 0
 have a1 := block_free HI.out.p 1
 have a2 := block_cell HI.out.p 0
 have a3 := block_cell HI.out.p 1
 have HP4 := Lib.hid (setCell_block (setCell_block HI.out.p 0 (.slice A4 gk.nodes.length c4)) 1 (.slice A5 gk.ties.length c5))
 have hbwx := (hbw.setCell (p := ⟨w.heap.size + 1, 0, none⟩) (by show w.heap.size <= w.heap.size + 1; omega) (.slice A4 gk.nodes.length c4)).setCell (p := ⟨w.heap.size + 1, 1, none⟩) (by show w.heap.size <= w.heap.size + 1; omega) (.slice A5 gk.ties.length c5)
 have HBW := Lib.hid hbwx
 have HR := Lib.hid ((HI.out.o.set (i := 0) (u := .slice A4 gk.nodes.length c4) HI.out.p).set (i := 1) (u := .slice A5 gk.ties.length c5) (setCell_block HI.out.p 0 (.slice A4 gk.nodes.length c4)))
 clear hbw hbwx hlt HD2
 go_wp2_with fail
 have k2 := block_cell HP4.out 0
 have k3 := block_cell HP4.out 1
 exact bodyPost_ret (v := .tuple #[.agg #[.slice A4 gk.nodes.length c4, .slice A5 gk.ties.length c5], .int .i64 0, .int .i64 0]) (by simp [results, Tryz.results12, go_sem, k2, k3]) rfl
  ⟨_, _, by rw [HEE.out.1, HEE.out.2.2], by rw [HEE.out.2.1]; exact HR.out, HBW.out⟩
theorem putTies_at {id : Int} {ts : List Tie} {j : Nat} {t : Tie} (h : ts[j]? = some t) (M : List Int) : putTies id (ts.drop j) M = putTies id (ts.drop (j + 1)) (if t.src = id \/ t.dst = id then putN (putN M t.src) t.dst else M) := by rw [drop_cons h]; rfl
theorem putAll_at {l : List Opr} {k : Nat} {o : Opr} (h : l[k]? = some o) (g : Grf) (M : List Int) : putAll g (l.drop k) M = putAll (opG g o) (l.drop (k + 1)) (putOp g o M) := by rw [drop_cons h]; rfl
theorem BoxS.below' {w0 w wx wy : World} {b : Nat} {g : Grf} (h : BoxS w0 w b g wx) (hb : Below wx.heap.size wx wy) : BoxS w0 w b g wy := by
 obtain ⟨vn, vt, h1, h2, h3, h4⟩ := h
 exact ⟨vn, vt, (hb.block _ (geB h1)).trans h1, h2.stay fun _ hW => hW.from hb, h3, h4.trans (hb.mono h4.size)⟩
theorem SlS.below {D : Type} {L : Lay D} {w0 w w1 : World} {v : Value} {l : List D} (h : SlS L w0 w v l) (hb : Below w.heap.size w w1) : SlS L w0 w1 v l := h.stay fun _ hW => hW.from hb
theorem GrfS.below {w0 w w1 : World} {vn vt : Value} {g : Grf} (h : GrfS w0 w vn vt g) (hb : Below w.heap.size w w1) : GrfS w0 w1 vn vt g := h.stay fun _ hW => hW.from hb
theorem SlS.form {D : Type} {L : Lay D} {w0 w : World} {v : Value} {l : List D} (h : SlS L w0 w v l) : ∃ A c, v = .slice A l.length c := by
 obtain ⟨A, c, _, h, _⟩ := h
 exact ⟨A, c, h⟩
theorem SlS.set {D : Type} {L : Lay D} {w0 w : World} {v u : Value} {l : List D} {b i : Nat} {cs : Array Value} {fr : Nat × Nat} (h : SlS L w0 w v l) (hq : w.heap[b]? = some (.cells cs 25 fr)) : SlS L w0 (w.setCell ⟨b, i, none⟩ u) v l :=
 h.stay fun _ hW => ⟨hW.1, fun T hT => (Same.setCell (p := ⟨b, i, none⟩) hq hT _).trans (hW.2 T hT)⟩
structure PInv (w : World) (g : Grf) (l : List Opr) (k : Nat) (gk : Grf) (L : List Int) (ov : Value) (wr : World) : Prop where
 b : BoxS w w w.heap.size gk wr
 o : SlS intL w wr ov L
 r : RiseI L
 n : L.length <= 300 * k
 z : grfE gk = 0
 e : allE gk (l.drop k) = 0
 p : putAll g l [] = putAll gk (l.drop k) L
structure TyInv (w w1 : World) (id : Int) (ts : List Tie) (N : Nat) (j : Nat) (M F : List Int) (ov : Value) (wr : World) : Prop where
 b : Below w1.heap.size w1 wr
 o : SlS intL w wr ov M
 r : RiseI M
 n : M.length <= N + 2 * j
 p : F = putTies id (ts.drop j) M
def putM (o : Opr) (L : List Int) : List Int := if 5 <= o.what then putN (putN L o.tie.src) o.tie.dst else putN L o.node.id
theorem putM_rise (o : Opr) {L : List Int} (h : RiseI L) : RiseI (putM o L) := by
 unfold putM
 split
 ·exact putN_rise (putN_rise h _) _
 exact putN_rise h _
theorem putM_len (o : Opr) (L : List Int) : (putM o L).length <= L.length + 2 := by
 unfold putM
 split
 ·have h1 := putN_len (putN L o.tie.src) o.tie.dst
  have h2 := putN_len L o.tie.src
  omega
 have h2 := putN_len L o.node.id
 omega
set_option maxRecDepth 100000 in
set_option maxHeartbeats 16000000 in
theorem touched2_any (g : Grf) (l : List Opr) (vn vt vl : Value) (w : World) (hG : GrfR w vn vt g) (hL : Sl oprL w vl l) (hll : l.length <= 40) (hz : grfE g = 0) (he : allE g l = 0) :
 Calls Tryz.prog 24 #[.agg #[vn, vt], vl] w fun e w' => ∃ u, e = .returned u /\ Sl intL w' u (putAll g l []) /\ Below w.heap.size w w' := by
 obtain ⟨A1, c1, rfl, _, _⟩ := hG.1.form
 obtain ⟨A2, c2, rfl, _, _⟩ := hG.2.form
 obtain ⟨Al, cl, rfl, _, hlm⟩ := hL.form
 unfold maxLen at hlm
 have HL := Lib.hid hL
 have HP0 : Hid (PInv w g l 0 g [] (.slice none 0 0) (w.alloc (.cells #[.slice A1 g.nodes.length c1, .slice A2 g.ties.length c2] 25))) :=
  ⟨⟨_, _, heap_alloc_new _ _, GrfR.s hG, Nat.le_refl _, (Below.refl _ _).alloc (Nat.le_refl _) _⟩, SlS.nil _ _, List.Pairwise.nil, by simp, hz, he, rfl⟩
 have hwa : w.heap.size < (w.alloc (.cells #[.slice A1 g.nodes.length c1, .slice A2 g.ties.length c2] 25)).heap.size := by simp
 clear hG hL hz he
 go_enter Tryz.func24, Tryz.ntmps24
 go_wp2_with fail
 generalize w.alloc (.cells #[.slice A1 g.nodes.length c1, .slice A2 g.ties.length c2] 25) = W0 at *
 go_loopw [5, 6] (fun ov i wr => ∃ (k : Nat) (gk : Grf) (L : List Int), k <= l.length /\ i = .int .i64 k /\ w.heap.size < wr.heap.size /\ Hid (PInv w g l k gk L ov wr)) (fun _ i _ => l.length - (intOf i).toNat)
 case atStart => exact ⟨0, g, [], Nat.zero_le _, rfl, hwa, HP0⟩
 clear HP0 hwa
 obtain ⟨k, gk, L, hk, rfl, hws, HP⟩ := hrel
 obtain ⟨wo, hwo⟩ : ∃ wo : World, wo = wr := ⟨_, rfl⟩
 subst hwo
 obtain ⟨Ao, co, hvo⟩ := SlS.form HP.out.o
 subst hvo
 obtain ⟨_, _, _, _, _, hbw⟩ := HP.out.b
 by_cases hlt : k < l.length
 ·obtain ⟨⟨what, node, prop, tie⟩, hd⟩ : ∃ d, l[k]? = some d := ⟨_, List.getElem?_eq_getElem hlt⟩
  have hlt' : (k : Int) < (l.length : Int) := by omega
  obtain ⟨bo, oo, vr, hA, hor, hcells⟩ := opr_at HL.out hd
  subst hA
  have HNE := Lib.hid (all_at hd gk).1
  have HNP := Lib.hid (putAll_at hd gk L)
  have HOR := Lib.hid hor
  obtain ⟨Ar, cr, hvr, _, _⟩ := hor.r.form
  have hvr : vr = .slice Ar node.props.length cr := hvr
  subst hvr
  have HTI : Hid (I64 tie.src /\ I64 tie.dst /\ I64 node.id) := ⟨hor.t.2.1, hor.t.2.2, hor.i⟩
  have q0 : wo.cell? ⟨bo, oo + k * 11, none⟩ = some (.int .i64 what) := cell_below hbw (by have := hcells 0 (.int .i64 what) rfl; simpa using this)
  have q1 : wo.cell? ⟨bo, oo + k * 11 + 1, none⟩ = some (.int .i64 node.id) := cell_below hbw (hcells 1 _ rfl)
  have q2 : wo.cell? ⟨bo, oo + k * 11 + 2, none⟩ = some (.string node.kind) := cell_below hbw (hcells 2 _ rfl)
  have q3 : wo.cell? ⟨bo, oo + k * 11 + 3, none⟩ = some (.slice Ar node.props.length cr) := cell_below hbw (hcells 3 _ rfl)
  have q4 : wo.cell? ⟨bo, oo + k * 11 + 4, none⟩ = some (.string prop.name) := cell_below hbw (hcells 4 _ rfl)
  have q5 : wo.cell? ⟨bo, oo + k * 11 + 5, none⟩ = some (.int .i64 prop.v.ty) := cell_below hbw (hcells 5 _ rfl)
  have q6 : wo.cell? ⟨bo, oo + k * 11 + 6, none⟩ = some (.int .i64 prop.v.n) := cell_below hbw (hcells 6 _ rfl)
  have q7 : wo.cell? ⟨bo, oo + k * 11 + 7, none⟩ = some (.string prop.v.s) := cell_below hbw (hcells 7 _ rfl)
  have q8 : wo.cell? ⟨bo, oo + k * 11 + 8, none⟩ = some (.string tie.bond) := cell_below hbw (hcells 8 _ rfl)
  have q9 : wo.cell? ⟨bo, oo + k * 11 + 9, none⟩ = some (.int .i64 tie.src) := cell_below hbw (hcells 9 _ rfl)
  have q10 : wo.cell? ⟨bo, oo + k * 11 + 10, none⟩ = some (.int .i64 tie.dst) := cell_below hbw (hcells 10 _ rfl)
  clear hd hcells hor
  have hbk := heap_alloc_new wo (.cells #[.int .i64 what, .int .i64 node.id, .string node.kind, .slice Ar node.props.length cr, .string prop.name, .int .i64 prop.v.ty, .int .i64 prop.v.n, .string prop.v.s, .string tie.bond, .int .i64 tie.src, .int .i64 tie.dst] 37)
  have ha1 : Below wo.heap.size wo (wo.alloc (.cells #[.int .i64 what, .int .i64 node.id, .string node.kind, .slice Ar node.props.length cr, .string prop.name, .int .i64 prop.v.ty, .int .i64 prop.v.n, .string prop.v.s, .string tie.bond, .int .i64 tie.src, .int .i64 tie.dst] 37)) := (Below.refl _ _).alloc (Nat.le_refl _) _
  go_upto_region 6 with fail
  generalize wo.alloc (.cells #[.int .i64 what, .int .i64 node.id, .string node.kind, .slice Ar node.props.length cr, .string prop.name, .int .i64 prop.v.ty, .int .i64 prop.v.n, .string prop.v.s, .string tie.bond, .int .i64 tie.src, .int .i64 tie.dst] 37) = w1 at *
  clear q0 q1 q2 q3 q4 q5 q6 q7 q8 q9 q10
  have HB1 := Lib.hid (HP.out.b.below' ha1)
  have HO1 := Lib.hid (HP.out.o.below ha1)
  have hbw1 := hbw.trans (ha1.mono hbw.size)
  have HBK : Hid (w1.heap[wo.heap.size]? = some (.cells #[.int .i64 what, .int .i64 node.id, .string node.kind, .slice Ar node.props.length cr, .string prop.name, .int .i64 prop.v.ty, .int .i64 prop.v.n, .string prop.v.s, .string tie.bond, .int .i64 tie.src, .int .i64 tie.dst] 37 (0, 0))) := hbk
  have HRI := Lib.hid HP.out.r
  have HPN : Hid (putOp gk ⟨what, node, prop, tie⟩ L = if what = 2 then putTies node.id gk.ties (putM ⟨what, node, prop, tie⟩ L) else putM ⟨what, node, prop, tie⟩ L) := rfl
  have HPM : Hid (putM ⟨what, node, prop, tie⟩ L = if 5 <= what then putN (putN L tie.src) tie.dst else putN L node.id) := rfl
  have HMR := Lib.hid (putM_rise ⟨what, node, prop, tie⟩ HP.out.r)
  have HML := Lib.hid (putM_len ⟨what, node, prop, tie⟩ L)
  have hLl := HP.out.n
  have o0 := block_cell hbk 0
  clear hbk ha1
  go_upto_if 22 with fail
  go_cut [5] (fun v wx => SlS intL w wx v (putM ⟨what, node, prop, tie⟩ L) /\ Below w1.heap.size w1 wx)
  case first =>
   by_cases h5 : 5 <= what
   ·have HPM2 := Lib.hid (HPM.out.trans (if_pos h5))
    have h5d : decide (5 <= what) = true := decide_eq_true h5
    have hr9 := block_cell HBK.out 9
    have hr10 := block_cell HBK.out 10
    have hbd : Below w1.heap.size w1 w1.drew := (Below.refl _ _).drew
    have HQ0 := Lib.hid (put2_any L tie.src _ w w1.drew (hbw1.trans (hbd.mono hbw1.size)) (HO1.out.below hbd) HRI.out (by omega) HTI.out.1)
    have hkeep := And.intro (cell_below hbd hr9) (cell_below hbd hr10)
    clear HPM hr9 hr10
    go_wp2_with fail
    go_region_held3 (fun w' => w'.cell? ⟨wo.heap.size, 9, none⟩ = some (.int .i64 tie.src) /\ w'.cell? ⟨wo.heap.size, 10, none⟩ = some (.int .i64 tie.dst))
     (first
       | exact hkeep
       | go_keep)
     (first
       | (go_at_call 68
          with_reducible refine HQ0.out.mono ?_
          rintro e w3 ⟨u3, rfl, hu3, hb3⟩
          obtain ⟨A3, c3, hv3⟩ := SlS.form hu3
          subst hv3
          have hb13 := hbd.trans (hb3.mono hbd.size)
          have hkeep := And.intro (cell_below hb13 (block_cell HBK.out 9)) (cell_below hb13 (block_cell HBK.out 10))
          have hln := putN_len L tie.src
          have HQ1 := Lib.hid (put2_any (putN L tie.src) tie.dst _ w w3 (hbw1.trans (hb13.mono hbw1.size)) hu3 (putN_rise HRI.out _) (by omega) HTI.out.2.1))
       | (go_at_call 68
          with_reducible refine HQ1.out.mono ?_
          rintro e w4 ⟨u4, rfl, hu4, hb4⟩
          obtain ⟨A4, c4, hv4⟩ := SlS.form hu4
          subst hv4
          have hb14 := hb13.trans (hb4.mono hb13.size)
          have hkeep := And.intro (cell_below hb14 (block_cell HBK.out 9)) (cell_below hb14 (block_cell HBK.out 10))
          have HU := Lib.hid hu4))
    all_goals
     clear hkeep hu3 hu4
     go_wp2_with fail
     go_meet
     exact ⟨by rw [HPM2.out]; exact HU.out, hb14⟩
   have HPM2 := Lib.hid (HPM.out.trans (if_neg h5))
   have h5d : decide (5 <= what) = false := decide_eq_false h5
   have hr1 := block_cell HBK.out 1
   have hx := put2_any L node.id _ w w1 hbw1 HO1.out HRI.out (by omega) HTI.out.2.2
   clear HPM
   go_wp2_with fail
   refine hx.mono ?_
   clear hx
   rintro e w3 ⟨u3, rfl, hu3, hb3⟩
   obtain ⟨A3, c3, hv3⟩ := SlS.form hu3
   subst hv3
   have HU := Lib.hid hu3
   clear hu3
   go_wp2_with fail
   go_meet
   exact ⟨by rw [HPM2.out]; exact HU.out, hb3⟩
  case rest =>
  obtain ⟨w3, hw3⟩ : ∃ x : World, x = wc := ⟨_, rfl⟩
  subst hw3
  obtain ⟨hu, hb13⟩ := hcut
  obtain ⟨A3, c3, hv3⟩ := SlS.form hu
  subst hv3
  have hMN : (putM ⟨what, node, prop, tie⟩ L).length <= 300 * k + 2 := by have := HML.out; omega
  obtain ⟨F, hF⟩ : ∃ F, F = putTies node.id gk.ties (putM ⟨what, node, prop, tie⟩ L) := ⟨_, rfl⟩
  have HTY : Hid (TyInv w w1 node.id gk.ties (300 * k + 2) 0 (putM ⟨what, node, prop, tie⟩ L) F (.slice A3 (putM ⟨what, node, prop, tie⟩ L).length c3) w3) := ⟨hb13, hu, HMR.out, by omega, hF⟩
  have HPF : Hid (what = 2 -> putOp gk ⟨what, node, prop, tie⟩ L = F) := fun h => by rw [HPN.out, if_pos h, hF]
  have HPG : Hid (what ≠ 2 -> putOp gk ⟨what, node, prop, tie⟩ L = putM ⟨what, node, prop, tie⟩ L) := fun h => by rw [HPN.out, if_neg h]
  have hgl := (grf_ok HP.out.z).2.1
  clear hu hb13 hF HPN HPM HMR HML HO1 HRI o0
  generalize putM ⟨what, node, prop, tie⟩ L = M0 at *
  obtain ⟨vn1, vt1, gb1, gs1, _, _⟩ := HB1.out
  have gr1 := gs1.r hbw1
  obtain ⟨B1, d1, rfl, _, _⟩ := gr1.1.form
  obtain ⟨B2, d2, rfl, _, _⟩ := gr1.2.form
  have HGB : Hid (w1.heap[w.heap.size]? = some (.cells #[.slice B1 gk.nodes.length d1, .slice B2 gk.ties.length d2] 25 (0, 0))) := gb1
  have HGT := Lib.hid gr1.2
  have HG1 : Hid (GrfS w w1 (.slice B1 gk.nodes.length d1) (.slice B2 gk.ties.length d2) gk) := gs1
  clear gb1 gs1 gr1
  have hMl : (0 : Nat) <= gk.ties.length := Nat.zero_le _
  go_wp2_with fail
  go_loopw [5, 8] (fun ov i wr => ∃ (j : Nat) (M : List Int), j <= gk.ties.length /\ i = .int .i64 j /\ (what ≠ 2 -> M = M0) /\ Hid (TyInv w w1 node.id gk.ties (300 * k + 2) j M F ov wr)) (fun _ i _ => gk.ties.length - (intOf i).toNat)
  case atStart => exact ⟨0, M0, hMl, rfl, fun _ => rfl, HTY⟩
  clear HTY
  obtain ⟨j, M, hj, rfl, hM0, HT⟩ := hrel
  obtain ⟨A5, c5, hv5⟩ := SlS.form HT.out.o
  subst hv5
  have hb := HT.out.b
  have gb := (hb.block _ (geB HGB.out)).trans HGB.out
  have ob := (hb.block _ (geB HBK.out)).trans HBK.out
  have g1 := block_cell gb 1
  have o0 := block_cell ob 0
  have o1 := block_cell ob 1
  by_cases hw2 : what = 2
  ·have hwb : (what == 2) = true := by rw [beq_iff_eq]; exact hw2
   by_cases hlj : j < gk.ties.length
   ·obtain ⟨t, ht⟩ : ∃ d, gk.ties[j]? = some d := ⟨_, List.getElem?_eq_getElem hlj⟩
    have hlj' : (j : Int) < (gk.ties.length : Int) := by omega
    obtain ⟨tb, to', rfl, htk, t0, t1, t2⟩ := tie_at HGT.out ht
    have t0 := cell_below hb t0
    have t1 := cell_below hb t1
    have t2 := cell_below hb t2
    have HPT := Lib.hid (putTies_at (id := node.id) ht M)
    have HTK := Lib.hid htk
    have hbk := heap_alloc_new wr (.cells #[.string t.bond, .int .i64 t.src, .int .i64 t.dst] 35)
    have ha1 : Below wr.heap.size wr (wr.alloc (.cells #[.string t.bond, .int .i64 t.src, .int .i64 t.dst] 35)) := (Below.refl _ _).alloc (Nat.le_refl _) _
    clear ht htk
    go_upto_region 13 with fail
    generalize wr.alloc (.cells #[.string t.bond, .int .i64 t.src, .int .i64 t.dst] 35) = w5 at *
    have hb5 := hb.trans (ha1.mono hb.size)
    have ob5 := (ha1.block _ (geB ob)).trans ob
    have HT5 := Lib.hid (HT.out.o.below ha1)
    have hMn := HT.out.n
    have HTR := Lib.hid HT.out.r
    have HTP := Lib.hid HT.out.p
    have o1 := block_cell ob5 1
    have z1 := block_cell hbk 1
    have z2 := block_cell hbk 2
    have HZ := Lib.hid hbk
    clear g1 o0 t0 t1 t2 ob gb HT ob5 hbk ha1
    by_cases hs : t.src = node.id \/ t.dst = node.id
    ·have HPT2 := Lib.hid (HTP.out.trans (HPT.out.trans (by rw [if_pos hs])))
     have hsb : (t.src == node.id || t.dst == node.id) = true := by simpa using hs
     have hbd : Below w5.heap.size w5 w5.drew := (Below.refl _ _).drew
     have HQ0 := Lib.hid (put2_any M t.src _ w w5.drew ((hbw1.trans (hb5.mono hbw1.size)).trans (hbd.mono (hbw1.trans (hb5.mono hbw1.size)).size)) (HT5.out.below hbd) HTR.out (by omega) HTK.out.2.1)
     have hkeep := And.intro (cell_below hbd z1) (cell_below hbd z2)
     have hbw5 := hbw1.trans (hb5.mono hbw1.size)
     cases hs1 : (t.src == node.id) with
     | true =>
      clear hsb hs HPT
      go_wp2_with fail
      go_region_held3 (fun w' => w'.cell? ⟨wr.heap.size, 1, none⟩ = some (.int .i64 t.src) /\ w'.cell? ⟨wr.heap.size, 2, none⟩ = some (.int .i64 t.dst))
       (first
         | exact hkeep
         | go_keep)
       (first
         | (go_at_call 68
            with_reducible refine HQ0.out.mono ?_
            rintro e w6 ⟨u6, rfl, hu6, hb6⟩
            obtain ⟨A6, c6, hv6⟩ := SlS.form hu6
            subst hv6
            have hb56 := hbd.trans (hb6.mono hbd.size)
            have hkeep := And.intro (cell_below hb56 (block_cell HZ.out 1)) (cell_below hb56 (block_cell HZ.out 2))
            have hln := putN_len M t.src
            have HQ1 := Lib.hid (put2_any (putN M t.src) t.dst _ w w6 (hbw5.trans (hb56.mono hbw5.size)) hu6 (putN_rise HTR.out _) (by omega) HTK.out.2.2))
         | (go_at_call 68
            with_reducible refine HQ1.out.mono ?_
            rintro e w7 ⟨u7, rfl, hu7, hb7⟩
            obtain ⟨A7, c7, hv7⟩ := SlS.form hu7
            subst hv7
            have hb57 := hb56.trans (hb7.mono hb56.size)
            have hkeep := And.intro (cell_below hb57 (block_cell HZ.out 1)) (cell_below hb57 (block_cell HZ.out 2))
            have hln2 := putN_len (putN M t.src) t.dst
            have HU := Lib.hid hu7))
      all_goals
       clear hkeep hu6 hu7
       go_wp2_with fail
       go_roundw
       case rel => exact ⟨j + 1, _, by omega, by go_num, fun h => absurd hw2 h, ⟨hb5.trans (hb57.mono hb5.size), HU.out, putN_rise (putN_rise HTR.out _) _, by omega, HPT2.out⟩⟩
       case measure => simp [intOf]; omega
     | false =>
      rw [hs1] at hsb
      have hs2 : (t.dst == node.id) = true := by simpa using hsb
      clear hsb hs HPT
      go_wp2_with fail
      go_region_held3 (fun w' => w'.cell? ⟨wr.heap.size, 1, none⟩ = some (.int .i64 t.src) /\ w'.cell? ⟨wr.heap.size, 2, none⟩ = some (.int .i64 t.dst))
       (first
         | exact hkeep
         | go_keep)
       (first
         | (go_at_call 68
            with_reducible refine HQ0.out.mono ?_
            rintro e w6 ⟨u6, rfl, hu6, hb6⟩
            obtain ⟨A6, c6, hv6⟩ := SlS.form hu6
            subst hv6
            have hb56 := hbd.trans (hb6.mono hbd.size)
            have hkeep := And.intro (cell_below hb56 (block_cell HZ.out 1)) (cell_below hb56 (block_cell HZ.out 2))
            have hln := putN_len M t.src
            have HQ1 := Lib.hid (put2_any (putN M t.src) t.dst _ w w6 (hbw5.trans (hb56.mono hbw5.size)) hu6 (putN_rise HTR.out _) (by omega) HTK.out.2.2))
         | (go_at_call 68
            with_reducible refine HQ1.out.mono ?_
            rintro e w7 ⟨u7, rfl, hu7, hb7⟩
            obtain ⟨A7, c7, hv7⟩ := SlS.form hu7
            subst hv7
            have hb57 := hb56.trans (hb7.mono hb56.size)
            have hkeep := And.intro (cell_below hb57 (block_cell HZ.out 1)) (cell_below hb57 (block_cell HZ.out 2))
            have hln2 := putN_len (putN M t.src) t.dst
            have HU := Lib.hid hu7))
      all_goals
       clear hkeep hu6 hu7
       go_wp2_with fail
       go_roundw
       case rel => exact ⟨j + 1, _, by omega, by go_num, fun h => absurd hw2 h, ⟨hb5.trans (hb57.mono hb5.size), HU.out, putN_rise (putN_rise HTR.out _) _, by omega, HPT2.out⟩⟩
       case measure => simp [intOf]; omega
    have HPT2 := Lib.hid (HTP.out.trans (HPT.out.trans (by rw [if_neg hs])))
    have hs1 : (t.src == node.id) = false := by rw [beq_eq_false_iff_ne]; exact fun e => hs (.inl e)
    have hs2 : (t.dst == node.id) = false := by rw [beq_eq_false_iff_ne]; exact fun e => hs (.inr e)
    clear hs HPT
    go_wp2_with fail
    go_roundw
    case rel => exact ⟨j + 1, M, by omega, by go_num, fun h => absurd hw2 h, ⟨hb5, HT5.out, HTR.out, by omega, HPT2.out⟩⟩
    case measure => simp [intOf]; omega
   obtain rfl : j = gk.ties.length := by omega
   have HE : Hid (putOp gk ⟨what, node, prop, tie⟩ L = M) := by
    have := HT.out.p
    rw [List.drop_length] at this
    unfold Hid; rw [HPF.out hw2, this]; rfl
   clear hw2 hM0 HPF HPG
   have hbwr := hbw1.trans (hb.mono hbw1.size)
   have g0 := block_cell gb 0
   have o2 := block_cell ob 2
   have o3 := block_cell ob 3
   have o4 := block_cell ob 4
   have o5 := block_cell ob 5
   have o6 := block_cell ob 6
   have o7 := block_cell ob 7
   have o8 := block_cell ob 8
   have o9 := block_cell ob 9
   have oa := block_cell ob 10
   have hMn := HT.out.n
   have HTR := Lib.hid HT.out.r
   have HTO := Lib.hid HT.out.o
   have hMl2 : M.length <= 300 * (k + 1) := by omega
   obtain ⟨d1', d2', d3'⟩ := doE_right HP.out.z ⟨what, node, prop, tie⟩
   have hop : opE gk ⟨what, node, prop, tie⟩ = 0 := by
    have h1 := HNE.out
    rw [HP.out.e] at h1
    by_cases h0 : opE gk ⟨what, node, prop, tie⟩ = 0
    ·exact h0
    rw [if_neg h0] at h1; exact absurd h1.symm h0
   have HOP : Hid (grfE (opG gk ⟨what, node, prop, tie⟩) = 0 /\ allE (opG gk ⟨what, node, prop, tie⟩) (l.drop (k + 1)) = 0) := by
    have h1 := HNE.out
    rw [HP.out.e, if_pos hop] at h1
    exact ⟨op_right HP.out.z hop, h1.symm⟩
   have hx := rdo_any gk ⟨what, node, prop, tie⟩ _ _ (.slice Ar node.props.length cr) w wr hbwr (HG1.out.below hb) HOR.out HP.out.z
   rw [d3' hop, d1', hop] at hx
   have HPP : Hid (putAll g l [] = putAll (opG gk ⟨what, node, prop, tie⟩) (l.drop (k + 1)) M) := by unfold Hid; rw [HP.out.p, HNP.out, HE.out]
   have HGZ := Lib.hid gb
   clear d1' d2' d3' hop HNE HNP HE HT ob gb HP
   go_wp2_with fail
   refine hx.mono ?_
   clear hx g0 g1 o0 o1 o2 o3 o4 o5 o6 o7 o8 o9 oa
   rintro e w8 ⟨un, ut, rfl, hu8, hb8⟩
   obtain ⟨A8, c8, hv8⟩ := SlS.form hu8.1
   subst hv8
   obtain ⟨A9, c9, hv9⟩ := SlS.form hu8.2
   subst hv9
   have gb8 := (hb8.block _ (geB HGZ.out)).trans HGZ.out
   have hbw8 := hbwr.trans (hb8.mono hbwr.size)
   have HFIN : Hid (PInv w g l (k + 1) (opG gk ⟨what, node, prop, tie⟩) M (.slice A5 M.length c5) ((w8.setCell ⟨w.heap.size, 0, none⟩ (.slice A8 (opG gk ⟨what, node, prop, tie⟩).nodes.length c8)).setCell ⟨w.heap.size, 1, none⟩ (.slice A9 (opG gk ⟨what, node, prop, tie⟩).ties.length c9))) :=
    ⟨BoxS.soon (w := w) hbw8 (Nat.le_refl _) gb8 hu8, ((HTO.out.below hb8).set gb8).set (setCell_block gb8 0 _), HTR.out, hMl2, HOP.out.1, HOP.out.2, HPP.out⟩
   have HSZ : Hid (w.heap.size < ((w8.setCell ⟨w.heap.size, 0, none⟩ (.slice A8 (opG gk ⟨what, node, prop, tie⟩).nodes.length c8)).setCell ⟨w.heap.size, 1, none⟩ (.slice A9 (opG gk ⟨what, node, prop, tie⟩).ties.length c9)).heap.size) := by
    have := (geB gb8)
    unfold Hid; simp [World.setCell]; omega
   have m0 := block_cell gb8 0
   have m1 := block_cell gb8 1
   have f0 := block_free gb8 0
   have f1 := block_free gb8 1
   clear hu8 gb8 hb8 hbw8 HGZ
   generalize opG gk ⟨what, node, prop, tie⟩ = og at *
   go_wp2_with fail
   go_roundw
   case rel => exact ⟨k + 1, og, M, by omega, by go_num, HSZ.out, HFIN⟩
   case measure => simp [intOf]; omega
  have hwb : (what == 2) = false := by rw [beq_eq_false_iff_ne]; exact hw2
  have HE : Hid (putOp gk ⟨what, node, prop, tie⟩ L = M) := by unfold Hid; rw [HPG.out hw2, hM0 hw2]
  clear hw2 hM0 HPF HPG
  by_cases hlj : j < gk.ties.length
  ·have hlj' : (j : Int) < (gk.ties.length : Int) := by omega
   have hbwr := hbw1.trans (hb.mono hbw1.size)
   have g0 := block_cell gb 0
   have o2 := block_cell ob 2
   have o3 := block_cell ob 3
   have o4 := block_cell ob 4
   have o5 := block_cell ob 5
   have o6 := block_cell ob 6
   have o7 := block_cell ob 7
   have o8 := block_cell ob 8
   have o9 := block_cell ob 9
   have oa := block_cell ob 10
   have hMn := HT.out.n
   have HTR := Lib.hid HT.out.r
   have HTO := Lib.hid HT.out.o
   have hMl2 : M.length <= 300 * (k + 1) := by omega
   obtain ⟨d1', d2', d3'⟩ := doE_right HP.out.z ⟨what, node, prop, tie⟩
   have hop : opE gk ⟨what, node, prop, tie⟩ = 0 := by
    have h1 := HNE.out
    rw [HP.out.e] at h1
    by_cases h0 : opE gk ⟨what, node, prop, tie⟩ = 0
    ·exact h0
    rw [if_neg h0] at h1; exact absurd h1.symm h0
   have HOP : Hid (grfE (opG gk ⟨what, node, prop, tie⟩) = 0 /\ allE (opG gk ⟨what, node, prop, tie⟩) (l.drop (k + 1)) = 0) := by
    have h1 := HNE.out
    rw [HP.out.e, if_pos hop] at h1
    exact ⟨op_right HP.out.z hop, h1.symm⟩
   have hx := rdo_any gk ⟨what, node, prop, tie⟩ _ _ (.slice Ar node.props.length cr) w wr hbwr (HG1.out.below hb) HOR.out HP.out.z
   rw [d3' hop, d1', hop] at hx
   have HPP : Hid (putAll g l [] = putAll (opG gk ⟨what, node, prop, tie⟩) (l.drop (k + 1)) M) := by unfold Hid; rw [HP.out.p, HNP.out, HE.out]
   have HGZ := Lib.hid gb
   clear d1' d2' d3' hop HNE HNP HE HT ob gb HP
   go_wp2_with fail
   refine hx.mono ?_
   clear hx g0 g1 o0 o1 o2 o3 o4 o5 o6 o7 o8 o9 oa
   rintro e w8 ⟨un, ut, rfl, hu8, hb8⟩
   obtain ⟨A8, c8, hv8⟩ := SlS.form hu8.1
   subst hv8
   obtain ⟨A9, c9, hv9⟩ := SlS.form hu8.2
   subst hv9
   have gb8 := (hb8.block _ (geB HGZ.out)).trans HGZ.out
   have hbw8 := hbwr.trans (hb8.mono hbwr.size)
   have HFIN : Hid (PInv w g l (k + 1) (opG gk ⟨what, node, prop, tie⟩) M (.slice A5 M.length c5) ((w8.setCell ⟨w.heap.size, 0, none⟩ (.slice A8 (opG gk ⟨what, node, prop, tie⟩).nodes.length c8)).setCell ⟨w.heap.size, 1, none⟩ (.slice A9 (opG gk ⟨what, node, prop, tie⟩).ties.length c9))) :=
    ⟨BoxS.soon (w := w) hbw8 (Nat.le_refl _) gb8 hu8, ((HTO.out.below hb8).set gb8).set (setCell_block gb8 0 _), HTR.out, hMl2, HOP.out.1, HOP.out.2, HPP.out⟩
   have HSZ : Hid (w.heap.size < ((w8.setCell ⟨w.heap.size, 0, none⟩ (.slice A8 (opG gk ⟨what, node, prop, tie⟩).nodes.length c8)).setCell ⟨w.heap.size, 1, none⟩ (.slice A9 (opG gk ⟨what, node, prop, tie⟩).ties.length c9)).heap.size) := by
    have := (geB gb8)
    unfold Hid; simp [World.setCell]; omega
   have m0 := block_cell gb8 0
   have m1 := block_cell gb8 1
   have f0 := block_free gb8 0
   have f1 := block_free gb8 1
   clear hu8 gb8 hb8 hbw8 HGZ
   generalize opG gk ⟨what, node, prop, tie⟩ = og at *
   go_wp2_with fail
   go_roundw
   case rel => exact ⟨k + 1, og, M, by omega, by go_num, HSZ.out, HFIN⟩
   case measure => simp [intOf]; omega
  have hlj' : ¬ ((j : Int) < (gk.ties.length : Int)) := by omega
  have hbwr := hbw1.trans (hb.mono hbw1.size)
  have g0 := block_cell gb 0
  have o2 := block_cell ob 2
  have o3 := block_cell ob 3
  have o4 := block_cell ob 4
  have o5 := block_cell ob 5
  have o6 := block_cell ob 6
  have o7 := block_cell ob 7
  have o8 := block_cell ob 8
  have o9 := block_cell ob 9
  have oa := block_cell ob 10
  have hMn := HT.out.n
  have HTR := Lib.hid HT.out.r
  have HTO := Lib.hid HT.out.o
  have hMl2 : M.length <= 300 * (k + 1) := by omega
  obtain ⟨d1', d2', d3'⟩ := doE_right HP.out.z ⟨what, node, prop, tie⟩
  have hop : opE gk ⟨what, node, prop, tie⟩ = 0 := by
   have h1 := HNE.out
   rw [HP.out.e] at h1
   by_cases h0 : opE gk ⟨what, node, prop, tie⟩ = 0
   ·exact h0
   rw [if_neg h0] at h1; exact absurd h1.symm h0
  have HOP : Hid (grfE (opG gk ⟨what, node, prop, tie⟩) = 0 /\ allE (opG gk ⟨what, node, prop, tie⟩) (l.drop (k + 1)) = 0) := by
   have h1 := HNE.out
   rw [HP.out.e, if_pos hop] at h1
   exact ⟨op_right HP.out.z hop, h1.symm⟩
  have hx := rdo_any gk ⟨what, node, prop, tie⟩ _ _ (.slice Ar node.props.length cr) w wr hbwr (HG1.out.below hb) HOR.out HP.out.z
  rw [d3' hop, d1', hop] at hx
  have HPP : Hid (putAll g l [] = putAll (opG gk ⟨what, node, prop, tie⟩) (l.drop (k + 1)) M) := by unfold Hid; rw [HP.out.p, HNP.out, HE.out]
  have HGZ := Lib.hid gb
  clear d1' d2' d3' hop HNE HNP HE HT ob gb HP
  go_wp2_with fail
  refine hx.mono ?_
  clear hx g0 g1 o0 o1 o2 o3 o4 o5 o6 o7 o8 o9 oa
  rintro e w8 ⟨un, ut, rfl, hu8, hb8⟩
  obtain ⟨A8, c8, hv8⟩ := SlS.form hu8.1
  subst hv8
  obtain ⟨A9, c9, hv9⟩ := SlS.form hu8.2
  subst hv9
  have gb8 := (hb8.block _ (geB HGZ.out)).trans HGZ.out
  have hbw8 := hbwr.trans (hb8.mono hbwr.size)
  have HFIN : Hid (PInv w g l (k + 1) (opG gk ⟨what, node, prop, tie⟩) M (.slice A5 M.length c5) ((w8.setCell ⟨w.heap.size, 0, none⟩ (.slice A8 (opG gk ⟨what, node, prop, tie⟩).nodes.length c8)).setCell ⟨w.heap.size, 1, none⟩ (.slice A9 (opG gk ⟨what, node, prop, tie⟩).ties.length c9))) :=
   ⟨BoxS.soon (w := w) hbw8 (Nat.le_refl _) gb8 hu8, ((HTO.out.below hb8).set gb8).set (setCell_block gb8 0 _), HTR.out, hMl2, HOP.out.1, HOP.out.2, HPP.out⟩
  have HSZ : Hid (w.heap.size < ((w8.setCell ⟨w.heap.size, 0, none⟩ (.slice A8 (opG gk ⟨what, node, prop, tie⟩).nodes.length c8)).setCell ⟨w.heap.size, 1, none⟩ (.slice A9 (opG gk ⟨what, node, prop, tie⟩).ties.length c9)).heap.size) := by
   have := (geB gb8)
   unfold Hid; simp [World.setCell]; omega
  have m0 := block_cell gb8 0
  have m1 := block_cell gb8 1
  have f0 := block_free gb8 0
  have f1 := block_free gb8 1
  clear hu8 gb8 hb8 hbw8 HGZ
  generalize opG gk ⟨what, node, prop, tie⟩ = og at *
  go_wp2_with fail
  go_roundw
  case rel => exact ⟨k + 1, og, M, by omega, by go_num, HSZ.out, HFIN⟩
  case measure => simp [intOf]; omega
 obtain rfl : k = l.length := by omega
 have HE : Hid (putAll g l [] = L) := by
  have := HP.out.p
  rw [List.drop_length] at this
  exact this
 have HS := Lib.hid (HP.out.o.sl hbw)
 go_wp2_with fail
 go_ret
 exact ⟨_, rfl, by rw [HE.out]; exact HS.out, hbw⟩
end Go.Proofs.YtngbbefpphinjaaGreatDoor
