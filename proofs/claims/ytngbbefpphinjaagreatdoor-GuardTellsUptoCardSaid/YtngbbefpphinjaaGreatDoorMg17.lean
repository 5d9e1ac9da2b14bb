/- Parts: Tch, PtP, RgF, KinL, SamA, RefA. -/
import Derived.Test.YtngbbefpphinjaaGreatDoorMg03
import Derived.Test.YtngbbefpphinjaaGreatDoorMg09
import Derived.Test.YtngbbefpphinjaaGreatDoorMg16
import Derived.Deep.DeepCutAuto
import Derived.BigRegion
import Derived.Test.YtngbbefpphinjaaGreatDoorMg04
import Derived.Test.YtngbbefpphinjaaGreatDoorMg13
import Derived.Test.YtngbbefpphinjaaGreatDoorMg12
import Derived.Test.YtngbbefpphinjaaGreatDoorMg02
/- Contract: guard.Touched: which nodes ops touch, ascending. No condition. -/
namespace Go.Proofs.YtngbbefpphinjaaGreatDoor
open Go Go.RowKit
def tieT (id i : Int) (t : Tie) : Bool := (decide (t.src = id) || decide (t.dst = id)) && (decide (t.src = i) || decide (t.dst = i))
def touchB (g : Grf) (o : Opr) (i : Int) : Bool :=
 if o.what = 5 \/ o.what = 6 then decide (o.tie.src = i) || decide (o.tie.dst = i)
 else decide (o.node.id = i) || (decide (o.what = 2) && g.ties.any (tieT o.node.id i))
def touchS : Grf -> List Opr -> Int -> Bool
 | _, [], _ => false
 | g, o :: r, i => touchB g o i || touchS (opG g o) r i
theorem touchS_at {l : List Opr} {k : Nat} {o : Opr} (h : l[k]? = some o) (g : Grf) (i : Int) : touchS g (l.drop k) i = (touchB g o i || touchS (opG g o) (l.drop (k + 1)) i) := by rw [drop_cons h]; rfl
structure TInv (w wx : World) (bm N : Nat) (vn vt : Value) (gk : Grf) (S : Int -> Bool) : Prop where
 b : Below w.heap.size w wx
 q : wx.heap[w.heap.size]? = some (.cells #[vn, vt] 25 (0, 0))
 h : Held w wx vn vt gk
 m : MapB wx bm N S
section
variable {w wx wy : World} {bm N : Nat} {vn vt : Value} {gk : Grf} {S : Int -> Bool}
theorem TInv.below (h : TInv w wx bm N vn vt gk S) (hb : Below wx.heap.size wx wy) : TInv w wy bm N vn vt gk S :=
 ⟨h.b.trans (hb.mono h.b.size), (hb.block _ (geB h.q)).trans h.q, h.h.below hb, h.m.below hb⟩
theorem TInv.mono (h : TInv w wx bm N vn vt gk S) {M : Nat} (hM : N <= M) : TInv w wx bm M vn vt gk S := ⟨h.b, h.q, h.h, h.m.mono hM⟩
theorem TInv.put (h : TInv w wx bm N vn vt gk S) (hbm : w.heap.size < bm) (hN : N <= 100000) {x : Int} (hx : I64 x) :
 ∃ wy, (Instr.mapUpdate 144 (.map (some bm)) (.int .i64 x) (.bool true)).run Tryz.prog wx = .ok () wy /\ TInv w wy bm (N + 1) vn vt gk (fun t => S t || decide (x = t)) /\ ∀ T, Same T wx wy := by
 obtain ⟨wy, h1, h2, h3⟩ := h.m.put (by unfold maxLen; omega) hx
 have hs := fun T => h.m.same h3 T
 exact ⟨wy, h1, ⟨h.b.grown h3 h.b.size (fun k e => by injection e with e; omega), hs _ _ _ _ h.q, h.h.put hs, h2⟩, hs⟩
end
theorem dall_parts {g : Grf} {l : List Opr} (h : dallE g l = 0) : l.length <= 40 /\ grfE g = 0 /\ allE g l = 0 := by
 unfold dallE at h
 split at h
 ·simp at h
 split at h
 ·rename_i h1 h2; exact ⟨by omega, h2, h⟩
 rename_i _ h2; exact absurd h h2
set_option maxRecDepth 100000 in
set_option maxHeartbeats 32000000 in
theorem touched_any (g : Grf) (l : List Opr) (vn vt vl : Value) (w : World) (hG : GrfR w vn vt g) (hL : Sl oprL w vl l) :
 Calls Tryz.prog 25 #[.agg #[vn, vt], vl] w fun e w' => ∃ v L, e = .returned (.tuple #[v, errV (dallE g l)]) /\ Sl intL w' v L /\ (dallE g l = 0 -> Asc (touchS g l) L) /\ (dallE g l ≠ 0 -> L = []) /\ Below w.heap.size w w' := by
 obtain ⟨A1, c1, rfl, _, _⟩ := hG.1.form
 obtain ⟨A2, c2, rfl, _, _⟩ := hG.2.form
 obtain ⟨Al, cl, rfl, _, _⟩ := hL.form
 have hb0 : Below w.heap.size w (w.alloc (.cells #[.slice A1 g.nodes.length c1, .slice A2 g.ties.length c2] 25)) := (Below.refl _ _).alloc (Nat.le_refl _) _
 have hq0 := heap_alloc_new w (.cells #[.slice A1 g.nodes.length c1, .slice A2 g.ties.length c2] 25)
 have x0 := block_cell hq0 0
 have x1 := block_cell hq0 1
 have hx := dall_any g l _ _ _ _ (hG.below hb0) (hL.below hb0)
 have HG := Lib.hid hG
 have HL := Lib.hid hL
 have HDP : Hid (dallE g l = 0 -> l.length <= 40 /\ grfE g = 0 /\ allE g l = 0) := dall_parts
 unfold RetA at hx
 generalize dallE g l = de at *
 generalize dallI g l = di at *
 generalize dallG g l = og at *
 clear hG hL
 go_enter Tryz.func25, Tryz.ntmps25
 go_wp2_with fail
 refine hx.mono ?_
 clear hx x0 x1
 rintro e w1 ⟨un, ut, rfl, hr, hb1⟩
 obtain ⟨A3, c3, rfl, _, _⟩ := hr.1.form
 obtain ⟨A4, c4, rfl, _, _⟩ := hr.2.form
 have hB1 := hb0.trans (hb1.mono hb0.size)
 have hq1 := (hb1.block _ (geB hq0)).trans hq0
 clear hr hb1 hb0 hq0
 go_upto_region 2 with fail
 have hba : Below w1.heap.size w1 (w1.alloc (.cells #[.slice A3 og.nodes.length c3, .slice A4 og.ties.length c4] 25)) := (Below.refl _ _).alloc (Nat.le_refl _) _
 generalize w1.alloc (.cells #[.slice A3 og.nodes.length c3, .slice A4 og.ties.length c4] 25) = w2 at *
 have hB2 := hB1.trans (hba.mono hB1.size)
 have hq2 := (hba.block _ (geB hq1)).trans hq1
 by_cases hz : de = 0
 case neg =>
  have HEV : Hid (errV de = .iface 122 (.int .i64 de)) := errV_some hz
  have HZ := Lib.hid hz
  rw [errV_some hz]
  clear hz hq1 hq2
  go_wp2_with fail
  go_ret2
  exact ⟨_, [], by rw [HEV.out]; rfl, Sl.nil 0 (Nat.zero_le _) none, fun h => absurd h HZ.out, fun _ => rfl, hB2⟩
 obtain ⟨hl40, hg0, hall⟩ := HDP.out hz
 have HEV : Hid (errV de = .nilIface /\ de = 0) := ⟨errV_zero hz, hz⟩
 rw [errV_zero hz]
 have hmm := @run_makeMap Tryz.prog
 have hbm0 : Below w2.heap.size w2 (w2.alloc (.map #[] 0)) := (Below.refl _ _).alloc (Nat.le_refl _) _
 have hM0 := MapB.made w2
 have hsz : w.heap.size < w2.heap.size := (geB hq2)
 have HI0 : Hid (TInv w (w2.alloc (.map #[] 0)) w2.heap.size 0 (.slice A1 g.nodes.length c1) (.slice A2 g.ties.length c2) g (fun _ => false)) :=
  ⟨hB2.trans (hbm0.mono hB2.size), (hbm0.block _ hsz).trans hq2, .inr HG.out, hM0⟩
 have HA0 : Hid (grfE g = 0 /\ allE g l = 0) := ⟨hg0, hall⟩
 clear hz HDP hg0 hall hq1 hM0 hbm0 hba hB1 hB2 hq2
 obtain ⟨bm, hbm⟩ : ∃ bm, bm = w2.heap.size := ⟨_, rfl⟩
 rw [<- hbm] at HI0 hsz
 go_wp2_with fail
 rw [<- hbm]
 generalize w2.alloc (.map #[] 0) = w3 at *
 clear hmm hbm
 go_loopw [29] (fun i wr => ∃ (k : Nat) (vn vt : Value) (gk : Grf) (S : Int -> Bool), k <= l.length /\ i = .int .i64 k /\ TInv w wr bm (300 * k) vn vt gk S /\ (grfE gk = 0 /\ allE gk (l.drop k) = 0) /\ Hid (∀ i, touchS g l i = (S i || touchS gk (l.drop k) i))) (fun i _ => l.length - (intOf i).toNat)
 case atStart => exact ⟨0, _, _, g, _, Nat.zero_le _, rfl, HI0.out, HA0.out, fun i => by simp⟩
 clear HI0 HA0
 obtain ⟨k, vn, vt, gk, S, hk, rfl, hI, hA, HS⟩ := hrel
 have HI := Lib.hid hI
 have hgr := hI.h.r hI.b
 obtain ⟨An, cn, rfl, _, _⟩ := hgr.1.form
 obtain ⟨At, ct, rfl, _, _⟩ := hgr.2.form
 by_cases hlt : k < l.length
 ·obtain ⟨⟨what, node, prop, tie⟩, hd⟩ : ∃ d, l[k]? = some d := ⟨_, List.getElem?_eq_getElem hlt⟩
  have hlt' : (k : Int) < (l.length : Int) := by omega
  obtain ⟨a1, a2, a3⟩ := all_at hd gk
  have hoe : opE gk ⟨what, node, prop, tie⟩ = 0 := by
   by_cases h0 : opE gk ⟨what, node, prop, tie⟩ = 0
   ·exact h0
   rw [if_neg h0] at a1; rw [<- a1]; exact hA.2
  rw [if_pos hoe] at a1
  have hr2 := op_right hA.1 hoe
  have hdE : doE gk ⟨what, node, prop, tie⟩ = 0 := by unfold doE; rw [if_pos hA.1]; exact hoe
  have hdG : doG gk ⟨what, node, prop, tie⟩ = opG gk ⟨what, node, prop, tie⟩ := by unfold doG; rw [if_pos hdE]
  have HTB : Hid (∀ i, touchS gk (l.drop k) i = (touchB gk ⟨what, node, prop, tie⟩ i || touchS (opG gk ⟨what, node, prop, tie⟩) (l.drop (k + 1)) i)) := touchS_at hd gk
  obtain ⟨g2, hg2⟩ : ∃ g2, opG gk ⟨what, node, prop, tie⟩ = g2 := ⟨_, rfl⟩
  rw [hg2] at a1 hr2 hdG HTB
  have HG2 : Hid (grfE g2 = 0 /\ allE g2 (l.drop (k + 1)) = 0) := ⟨hr2, by rw [<- a1]; exact hA.2⟩
  have HTL : Hid (gk.ties.length <= 120) := (grf_ok hA.1).2.1
  have HGT := Lib.hid hgr.2
  obtain ⟨ob, oo, vr, hAl, hor, hcells⟩ := opr_at HL.out hd
  subst hAl
  obtain ⟨Ar, cr, hvr, _, _⟩ := hor.r.form
  have hvr : vr = .slice Ar node.props.length cr := hvr
  subst hvr
  have q0 : wr.cell? ⟨ob, oo + k * 11, none⟩ = some (.int .i64 what) := by have := cell_below hI.b (hcells 0 (.int .i64 what) rfl); simpa using this
  have q1 : wr.cell? ⟨ob, oo + k * 11 + 1, none⟩ = some (.int .i64 node.id) := cell_below hI.b (hcells 1 _ rfl)
  have q2 : wr.cell? ⟨ob, oo + k * 11 + 2, none⟩ = some (.string node.kind) := cell_below hI.b (hcells 2 _ rfl)
  have q3 : wr.cell? ⟨ob, oo + k * 11 + 3, none⟩ = some (.slice Ar node.props.length cr) := cell_below hI.b (hcells 3 _ rfl)
  have q4 : wr.cell? ⟨ob, oo + k * 11 + 4, none⟩ = some (.string prop.name) := cell_below hI.b (hcells 4 _ rfl)
  have q5 : wr.cell? ⟨ob, oo + k * 11 + 5, none⟩ = some (.int .i64 prop.v.ty) := cell_below hI.b (hcells 5 _ rfl)
  have q6 : wr.cell? ⟨ob, oo + k * 11 + 6, none⟩ = some (.int .i64 prop.v.n) := cell_below hI.b (hcells 6 _ rfl)
  have q7 : wr.cell? ⟨ob, oo + k * 11 + 7, none⟩ = some (.string prop.v.s) := cell_below hI.b (hcells 7 _ rfl)
  have q8 : wr.cell? ⟨ob, oo + k * 11 + 8, none⟩ = some (.string tie.bond) := cell_below hI.b (hcells 8 _ rfl)
  have q9 : wr.cell? ⟨ob, oo + k * 11 + 9, none⟩ = some (.int .i64 tie.src) := cell_below hI.b (hcells 9 _ rfl)
  have q10 : wr.cell? ⟨ob, oo + k * 11 + 10, none⟩ = some (.int .i64 tie.dst) := cell_below hI.b (hcells 10 _ rfl)
  have HOR := Lib.hid hor
  have HDO : Hid (∀ W, Below w.heap.size w W -> GrfR W (.slice An gk.nodes.length cn) (.slice At gk.ties.length ct) gk -> Calls Tryz.prog 9 #[.agg #[.slice An gk.nodes.length cn, .slice At gk.ties.length ct], .agg #[.int .i64 what, .int .i64 node.id, .string node.kind, .slice Ar node.props.length cr, .string prop.name, .int .i64 prop.v.ty, .int .i64 prop.v.n, .string prop.v.s, .string tie.bond, .int .i64 tie.src, .int .i64 tie.dst]] W
   fun e w' => ∃ vn vt B xs, e = .returned (.tuple #[.agg #[vn, vt], .nilIface]) /\ OwnG w' B vn vt g2 xs /\ Below W.heap.size W w') := fun W hW hr => by
   refine (Do_own _ ⟨what, node, prop, tie⟩ _ _ (.slice Ar node.props.length cr) W hr (HOR.out.below hW)).mono ?_
   rintro e w' ⟨a1, a2, h1, ⟨xs, h2⟩, h3⟩
   rw [hdE, errV_zero rfl] at h1
   rw [hdG] at h2
   exact ⟨a1, a2, _, xs, h1, h2, h3⟩
  have hbk := heap_alloc_new wr (.cells #[.int .i64 what, .int .i64 node.id, .string node.kind, .slice Ar node.props.length cr, .string prop.name, .int .i64 prop.v.ty, .int .i64 prop.v.n, .string prop.v.s, .string tie.bond, .int .i64 tie.src, .int .i64 tie.dst] 37)
  have ha1 : Below wr.heap.size wr (wr.alloc (.cells #[.int .i64 what, .int .i64 node.id, .string node.kind, .slice Ar node.props.length cr, .string prop.name, .int .i64 prop.v.ty, .int .i64 prop.v.n, .string prop.v.s, .string tie.bond, .int .i64 tie.src, .int .i64 tie.dst] 37)) := (Below.refl _ _).alloc (Nat.le_refl _) _
  clear hd hA hgr hor hcells hoe hr2 hdE hdG hg2 a1 a2 a3 hI
  go_upto_region 8 with fail
  generalize wr.alloc (.cells #[.int .i64 what, .int .i64 node.id, .string node.kind, .slice Ar node.props.length cr, .string prop.name, .int .i64 prop.v.ty, .int .i64 prop.v.n, .string prop.v.s, .string tie.bond, .int .i64 tie.src, .int .i64 tie.dst] 37) = wa at *
  have HIa := Lib.hid (HI.out.below ha1)
  obtain ⟨bo, hbo⟩ : ∃ bo, bo = wr.heap.size := ⟨_, rfl⟩
  rw [<- hbo] at hbk ⊢
  have HBK := Lib.hid hbk
  have z0 := block_cell hbk 0
  have z1 := block_cell hbk 1
  have z9 := block_cell hbk 9
  have z10 := block_cell hbk 10
  clear q0 q1 q2 q3 q4 q5 q6 q7 q8 q9 q10 HI ha1 hbo hbk
  by_cases hw56 : what = 5 \/ what = 6
  ·have HS1 : Hid (∀ i, touchS g l i = ((fun t => (S t || decide (tie.src = t)) || decide (tie.dst = t)) i || touchS g2 (l.drop (k + 1)) i)) := fun i => by
    rw [HS.out i, HTB.out i]
    have : touchB gk ⟨what, node, prop, tie⟩ i = (decide (tie.src = i) || decide (tie.dst = i)) := by unfold touchB; rw [if_pos hw56]
    rw [this]
    simp only [Bool.or_assoc]
   obtain ⟨S1, hS1⟩ : ∃ S1 : Int -> Bool, (fun t => (S t || decide (tie.src = t)) || decide (tie.dst = t)) = S1 := ⟨_, rfl⟩
   rw [hS1] at HS1
   have HSE := Lib.hid hS1
   clear HS HTB hS1
   obtain rfl | rfl := hw56
   ·have hId : TInv w wa.drew bm (300 * k) (.slice An gk.nodes.length cn) (.slice At gk.ties.length ct) gk S := HIa.out.below (Below.refl wa.heap.size wa).drew
    have hbd : wa.drew.heap[bo]? = _ := HBK.out
    obtain ⟨wp, hp, hIp, hsp⟩ := hId.put hsz (by omega) HOR.out.t.2.1
    have hbp := hsp _ _ _ _ hbd
    obtain ⟨wp2, hp2, hIp2, hsp2⟩ := hIp.put hsz (by omega) HOR.out.t.2.2
    rw [HSE.out] at hIp2
    have HIP := Lib.hid hIp2
    have hbkp := hsp2 _ _ _ _ hbp
    have d9 := block_cell hbd 9
    have d10 := block_cell hbd 10
    have e9 := block_cell hbp 9
    have e10 := block_cell hbp 10
    have v0 := block_cell hbkp 0
    have HBP := Lib.hid hbkp
    clear hId hbd hIp hIp2 hsp hsp2 hbp hbkp HIa HBK
    go_wp2_with fail
    go_region
    clear hp hp2 z0 z1 z9 z10 d9 d10 e9 e10
    go_upto_region 20 with fail
    clear v0
    have hbo := HBP.out
    have y0 := block_cell hbo 0
    have y1 := block_cell hbo 1
    have y2 := block_cell hbo 2
    have y3 := block_cell hbo 3
    have y4 := block_cell hbo 4
    have y5 := block_cell hbo 5
    have y6 := block_cell hbo 6
    have y7 := block_cell hbo 7
    have y8 := block_cell hbo 8
    have y9 := block_cell hbo 9
    have y10 := block_cell hbo 10
    have x0 := block_cell (HIP).out.q 0
    have x1 := block_cell (HIP).out.q 1
    have hx := HDO.out wp2 (HIP).out.b ((HIP).out.h.r (HIP).out.b)
    have HTD := HIP
    have HSD := HS1
    clear hbo
    go_wp2_with fail
    refine hx.mono ?_
    clear hx y0 y1 y2 y3 y4 y5 y6 y7 y8 y9 y10 x0 x1
    rintro e w5 ⟨un, ut, B5, xs5, rfl, how, hb5⟩
    obtain ⟨A5, c5, rfl, _, _⟩ := how.n.form
    obtain ⟨A6, c6, rfl, _, _⟩ := how.t.form
    have HT5 := Lib.hid (HTD.out.below hb5)
    go_upto_region 21 with fail
    have hz := heap_alloc_new w5 (.cells #[.slice A5 g2.nodes.length c5, .slice A6 g2.ties.length c6] 25)
    have hba : Below w5.heap.size w5 (w5.alloc (.cells #[.slice A5 g2.nodes.length c5, .slice A6 g2.ties.length c6] 25)) := (Below.refl _ _).alloc (Nat.le_refl _) _
    have how6 := how.below hba
    have HT6 := Lib.hid (HT5.out.below hba)
    generalize w5.alloc (.cells #[.slice A5 g2.nodes.length c5, .slice A6 g2.ties.length c6] 25) = w6 at *
    have hq6 := HT6.out.q
    have s0 := setCell_block hq6 0 (.slice A5 g2.nodes.length c5)
    have s1 := setCell_block s0 1 (.slice A6 g2.ties.length c6)
    have HE : Hid (TInv w ((w6.setCell ⟨w.heap.size, 0, none⟩ (.slice A5 g2.nodes.length c5)).setCell ⟨w.heap.size, 1, none⟩ (.slice A6 g2.ties.length c6)) bm (300 * k + 1 + 1) (.slice A5 g2.nodes.length c5) (.slice A6 g2.ties.length c6) g2 S1) := by
     refine ⟨(HT6.out.b.setCell (p := ⟨w.heap.size, 0, none⟩) (Nat.le_refl _) _).setCell (p := ⟨w.heap.size, 1, none⟩) (Nat.le_refl _) _, s1, ?_, ?_⟩
     ·have hh : Held w w6 (.slice A5 g2.nodes.length c5) (.slice A6 g2.ties.length c6) g2 := .inl ⟨B5, xs5, how6⟩
      exact (hh.set hq6 0 _).set s0 1 _
     have h1 := HT6.out.m.of_block (w' := (w6.setCell ⟨w.heap.size, 0, none⟩ (.slice A5 g2.nodes.length c5)).setCell ⟨w.heap.size, 1, none⟩ (.slice A6 g2.ties.length c6)) (by
      rw [Below.heap_setCell _ _ _ _ (by show bm ≠ w.heap.size; omega), Below.heap_setCell _ _ _ _ (by show bm ≠ w.heap.size; omega)])
     exact h1
    have a0 := block_free hq6 0
    have a1 := block_free hq6 1
    have a2 := block_cell hq6 0
    have a3 := block_cell hq6 1
    have a4 := block_cell hz 0
    have a5 := block_cell hz 1
    clear hz hba how how6 HT5 HT6 HTD hq6 s0 s1 hb5 HDO
    go_wp2_with fail
    go_roundw
    case rel => exact ⟨k + 1, _, _, g2, S1, by omega, by go_num, HE.out.mono (by omega), HG2.out, HSD⟩
    case measure => simp [intOf]; omega
   have hId : TInv w wa.drew bm (300 * k) (.slice An gk.nodes.length cn) (.slice At gk.ties.length ct) gk S := HIa.out.below (Below.refl wa.heap.size wa).drew
   have hbd : wa.drew.heap[bo]? = _ := HBK.out
   obtain ⟨wp, hp, hIp, hsp⟩ := hId.put hsz (by omega) HOR.out.t.2.1
   have hbp := hsp _ _ _ _ hbd
   obtain ⟨wp2, hp2, hIp2, hsp2⟩ := hIp.put hsz (by omega) HOR.out.t.2.2
   rw [HSE.out] at hIp2
   have HIP := Lib.hid hIp2
   have hbkp := hsp2 _ _ _ _ hbp
   have d9 := block_cell hbd 9
   have d10 := block_cell hbd 10
   have e9 := block_cell hbp 9
   have e10 := block_cell hbp 10
   have v0 := block_cell hbkp 0
   have HBP := Lib.hid hbkp
   clear hId hbd hIp hIp2 hsp hsp2 hbp hbkp HIa HBK
   go_wp2_with fail
   go_region
   clear hp hp2 z0 z1 z9 z10 d9 d10 e9 e10
   go_upto_region 20 with fail
   clear v0
   have hbo := HBP.out
   have y0 := block_cell hbo 0
   have y1 := block_cell hbo 1
   have y2 := block_cell hbo 2
   have y3 := block_cell hbo 3
   have y4 := block_cell hbo 4
   have y5 := block_cell hbo 5
   have y6 := block_cell hbo 6
   have y7 := block_cell hbo 7
   have y8 := block_cell hbo 8
   have y9 := block_cell hbo 9
   have y10 := block_cell hbo 10
   have x0 := block_cell (HIP).out.q 0
   have x1 := block_cell (HIP).out.q 1
   have hx := HDO.out wp2 (HIP).out.b ((HIP).out.h.r (HIP).out.b)
   have HTD := HIP
   have HSD := HS1
   clear hbo
   go_wp2_with fail
   refine hx.mono ?_
   clear hx y0 y1 y2 y3 y4 y5 y6 y7 y8 y9 y10 x0 x1
   rintro e w5 ⟨un, ut, B5, xs5, rfl, how, hb5⟩
   obtain ⟨A5, c5, rfl, _, _⟩ := how.n.form
   obtain ⟨A6, c6, rfl, _, _⟩ := how.t.form
   have HT5 := Lib.hid (HTD.out.below hb5)
   go_upto_region 21 with fail
   have hz := heap_alloc_new w5 (.cells #[.slice A5 g2.nodes.length c5, .slice A6 g2.ties.length c6] 25)
   have hba : Below w5.heap.size w5 (w5.alloc (.cells #[.slice A5 g2.nodes.length c5, .slice A6 g2.ties.length c6] 25)) := (Below.refl _ _).alloc (Nat.le_refl _) _
   have how6 := how.below hba
   have HT6 := Lib.hid (HT5.out.below hba)
   generalize w5.alloc (.cells #[.slice A5 g2.nodes.length c5, .slice A6 g2.ties.length c6] 25) = w6 at *
   have hq6 := HT6.out.q
   have s0 := setCell_block hq6 0 (.slice A5 g2.nodes.length c5)
   have s1 := setCell_block s0 1 (.slice A6 g2.ties.length c6)
   have HE : Hid (TInv w ((w6.setCell ⟨w.heap.size, 0, none⟩ (.slice A5 g2.nodes.length c5)).setCell ⟨w.heap.size, 1, none⟩ (.slice A6 g2.ties.length c6)) bm (300 * k + 1 + 1) (.slice A5 g2.nodes.length c5) (.slice A6 g2.ties.length c6) g2 S1) := by
    refine ⟨(HT6.out.b.setCell (p := ⟨w.heap.size, 0, none⟩) (Nat.le_refl _) _).setCell (p := ⟨w.heap.size, 1, none⟩) (Nat.le_refl _) _, s1, ?_, ?_⟩
    ·have hh : Held w w6 (.slice A5 g2.nodes.length c5) (.slice A6 g2.ties.length c6) g2 := .inl ⟨B5, xs5, how6⟩
     exact (hh.set hq6 0 _).set s0 1 _
    have h1 := HT6.out.m.of_block (w' := (w6.setCell ⟨w.heap.size, 0, none⟩ (.slice A5 g2.nodes.length c5)).setCell ⟨w.heap.size, 1, none⟩ (.slice A6 g2.ties.length c6)) (by
     rw [Below.heap_setCell _ _ _ _ (by show bm ≠ w.heap.size; omega), Below.heap_setCell _ _ _ _ (by show bm ≠ w.heap.size; omega)])
    exact h1
   have a0 := block_free hq6 0
   have a1 := block_free hq6 1
   have a2 := block_cell hq6 0
   have a3 := block_cell hq6 1
   have a4 := block_cell hz 0
   have a5 := block_cell hz 1
   clear hz hba how how6 HT5 HT6 HTD hq6 s0 s1 hb5 HDO
   go_wp2_with fail
   go_roundw
   case rel => exact ⟨k + 1, _, _, g2, S1, by omega, by go_num, HE.out.mono (by omega), HG2.out, HSD⟩
   case measure => simp [intOf]; omega
  have hw5 : (what == 5) = false := by rw [beq_eq_false_iff_ne]; omega
  have hw6 : (what == 6) = false := by rw [beq_eq_false_iff_ne]; omega
  have hd5 : decide (what = 5) = false := decide_eq_false (by omega)
  have hd6 : decide (what = 6) = false := decide_eq_false (by omega)
  have HTB2 : Hid (∀ i, touchB gk ⟨what, node, prop, tie⟩ i = (decide (node.id = i) || (decide (what = 2) && gk.ties.any (tieT node.id i)))) := fun i => by unfold touchB; rw [if_neg hw56]
  obtain ⟨wp, hp, hIp, hsp⟩ := HIa.out.put hsz (by omega) HOR.out.i
  have HIP := Lib.hid hIp
  have hbkp := hsp _ _ _ _ HBK.out
  have v0 := block_cell hbkp 0
  have v1 := block_cell hbkp 1
  have HBP := Lib.hid hbkp
  clear hw56 hsp hIp hbkp HIa HBK
  by_cases hw2 : what = 2
  ·subst hw2
   have x0 := block_cell HIP.out.q 0
   have x1 := block_cell HIP.out.q 1
   have HI0 : Hid (TInv w wp bm (300 * k + 1 + 2 * 0) (.slice An gk.nodes.length cn) (.slice At gk.ties.length ct) gk (fun t => (S t || decide (node.id = t)) || (gk.ties.take 0).any (tieT node.id t))) := by
    have e : (fun t => (S t || decide (node.id = t)) || (gk.ties.take 0).any (tieT node.id t)) = fun t => S t || decide (node.id = t) := by funext t; simp
    unfold Hid; rw [e]; exact HIP.out
   have HIDN := Lib.hid HOR.out.i
   have htl := HTL.out
   clear HIP hd5 hd6
   go_wp2_with fail
   clear hp z0 z1 z9 z10 v0 v1 x0 x1
   go_loopw [56] (fun i w4 => ∃ j : Nat, j <= gk.ties.length /\ i = .int .i64 j /\ Hid (TInv w w4 bm (300 * k + 1 + 2 * j) (.slice An gk.nodes.length cn) (.slice At gk.ties.length ct) gk (fun t => (S t || decide (node.id = t)) || (gk.ties.take j).any (tieT node.id t))) /\ Hid (w4.heap[bo]? = some (.cells #[.int .i64 2, .int .i64 node.id, .string node.kind, .slice Ar node.props.length cr, .string prop.name, .int .i64 prop.v.ty, .int .i64 prop.v.n, .string prop.v.s, .string tie.bond, .int .i64 tie.src, .int .i64 tie.dst] 37 (0, 0)))) (fun i _ => gk.ties.length - (intOf i).toNat)
   case atStart => exact ⟨0, Nat.zero_le _, rfl, HI0, HBP⟩
   clear HI0 HBP
   obtain ⟨j, hj, rfl, HT, HB⟩ := hrel
   have hgr := HT.out.h.r HT.out.b
   have x0 := block_cell HT.out.q 0
   have x1 := block_cell HT.out.q 1
   have z1 := block_cell HB.out 1
   by_cases hjl : j < gk.ties.length
   ·obtain ⟨t, ht⟩ : ∃ d, gk.ties[j]? = some d := ⟨_, List.getElem?_eq_getElem hjl⟩
    have hjl' : (j : Int) < (gk.ties.length : Int) := by omega
    obtain ⟨gt, ot, hAt, hokt, p0, p1, p2⟩ := tie_at hgr.2 ht
    subst hAt
    have HST : Hid (∀ i, (gk.ties.take (j + 1)).any (tieT node.id i) = ((gk.ties.take j).any (tieT node.id i) || tieT node.id i t)) := fun i => by rw [List.take_add_one, ht, List.any_append]; simp
    have HOK := Lib.hid hokt
    have hbt := heap_alloc_new wr (.cells #[.string t.bond, .int .i64 t.src, .int .i64 t.dst] 35)
    have ha2 : Below wr.heap.size wr (wr.alloc (.cells #[.string t.bond, .int .i64 t.src, .int .i64 t.dst] 35)) := (Below.refl _ _).alloc (Nat.le_refl _) _
    clear ht hgr hokt
    go_upto_region 17 with fail
    generalize wr.alloc (.cells #[.string t.bond, .int .i64 t.src, .int .i64 t.dst] 35) = wb at *
    obtain ⟨bt, hbte⟩ : ∃ bt, bt = wr.heap.size := ⟨_, rfl⟩
    rw [<- hbte] at hbt ⊢
    have HT2 := Lib.hid (HT.out.below ha2)
    have hb2 := (ha2.block _ (geB HB.out)).trans HB.out
    have HB2 := Lib.hid hb2
    have HBT := Lib.hid hbt
    have y1 := block_cell hb2 1
    have t1 := block_cell hbt 1
    have t2 := block_cell hbt 2
    clear p0 p1 p2 x0 x1 z1 HT HB ha2 hbte hb2 hbt
    by_cases hs : t.src = node.id
    ·have hsb : (t.src == node.id) = true := by rw [beq_iff_eq]; exact hs
     have HTT : Hid (∀ i, tieT node.id i t = (decide (t.src = i) || decide (t.dst = i))) := fun i => by unfold tieT; rw [decide_eq_true hs]; simp
     clear hs
     have hId : TInv w wb.drew bm (300 * k + 1 + 2 * j) (.slice An gk.nodes.length cn) (.slice (some ⟨gt, ot, none⟩) gk.ties.length ct) gk (fun i => (S i || decide (node.id = i)) || (gk.ties.take j).any (tieT node.id i)) := HT2.out.below (Below.refl wb.heap.size wb).drew
     have hbd : wb.drew.heap[bt]? = _ := HBT.out
     have hbo : wb.drew.heap[bo]? = _ := HB2.out
     obtain ⟨wp, hp, hIp, hsp⟩ := hId.put hsz (by omega) HOK.out.2.1
     have hbp := hsp _ _ _ _ hbd
     obtain ⟨wp2, hp2, hIp2, hsp2⟩ := hIp.put hsz (by omega) HOK.out.2.2
     have HB3 := Lib.hid (hsp2 _ _ _ _ (hsp _ _ _ _ hbo))
     have HN : Hid ((fun i => (S i || decide (node.id = i)) || (gk.ties.take (j + 1)).any (tieT node.id i)) = fun i => (((S i || decide (node.id = i)) || (gk.ties.take j).any (tieT node.id i)) || decide (t.src = i)) || decide (t.dst = i)) := by
      unfold Hid; funext i; rw [HST.out, HTT.out]; simp only [Bool.or_assoc]
     have HI2 := Lib.hid hIp2
     have d1 := block_cell hbd 1
     have d2 := block_cell hbd 2
     have e1 := block_cell hbp 1
     have e2 := block_cell hbp 2
     clear hId hbd hbo hIp hIp2 hsp hsp2 hbp HT2 HB2 HBT HST HTT
     go_wp2_with fail
     go_region
     go_wp2_with fail
     go_roundw
     case rel => exact ⟨j + 1, by omega, by go_num, by rw [HN.out]; exact HI2.out.mono (by omega), HB3⟩
     case measure => simp [intOf]; omega
    have hsb : (t.src == node.id) = false := by rw [beq_eq_false_iff_ne]; exact hs
    by_cases hd' : t.dst = node.id
    ·have hdb : (t.dst == node.id) = true := by rw [beq_iff_eq]; exact hd'
     have HTT : Hid (∀ i, tieT node.id i t = (decide (t.src = i) || decide (t.dst = i))) := fun i => by unfold tieT; rw [decide_eq_true hd']; simp
     clear hs hd'
     have hId : TInv w wb.drew bm (300 * k + 1 + 2 * j) (.slice An gk.nodes.length cn) (.slice (some ⟨gt, ot, none⟩) gk.ties.length ct) gk (fun i => (S i || decide (node.id = i)) || (gk.ties.take j).any (tieT node.id i)) := HT2.out.below (Below.refl wb.heap.size wb).drew
     have hbd : wb.drew.heap[bt]? = _ := HBT.out
     have hbo : wb.drew.heap[bo]? = _ := HB2.out
     obtain ⟨wp, hp, hIp, hsp⟩ := hId.put hsz (by omega) HOK.out.2.1
     have hbp := hsp _ _ _ _ hbd
     obtain ⟨wp2, hp2, hIp2, hsp2⟩ := hIp.put hsz (by omega) HOK.out.2.2
     have HB3 := Lib.hid (hsp2 _ _ _ _ (hsp _ _ _ _ hbo))
     have HN : Hid ((fun i => (S i || decide (node.id = i)) || (gk.ties.take (j + 1)).any (tieT node.id i)) = fun i => (((S i || decide (node.id = i)) || (gk.ties.take j).any (tieT node.id i)) || decide (t.src = i)) || decide (t.dst = i)) := by
      unfold Hid; funext i; rw [HST.out, HTT.out]; simp only [Bool.or_assoc]
     have HI2 := Lib.hid hIp2
     have d1 := block_cell hbd 1
     have d2 := block_cell hbd 2
     have e1 := block_cell hbp 1
     have e2 := block_cell hbp 2
     clear hId hbd hbo hIp hIp2 hsp hsp2 hbp HT2 HB2 HBT HST HTT
     go_wp2_with fail
     go_region
     go_wp2_with fail
     go_roundw
     case rel => exact ⟨j + 1, by omega, by go_num, by rw [HN.out]; exact HI2.out.mono (by omega), HB3⟩
     case measure => simp [intOf]; omega
    have hdb : (t.dst == node.id) = false := by rw [beq_eq_false_iff_ne]; exact hd'
    have HTT : Hid (∀ i, tieT node.id i t = false) := fun i => by unfold tieT; rw [decide_eq_false hs, decide_eq_false hd']; rfl
    have HN : Hid ((fun i => (S i || decide (node.id = i)) || (gk.ties.take (j + 1)).any (tieT node.id i)) = fun i => (S i || decide (node.id = i)) || (gk.ties.take j).any (tieT node.id i)) := by
     unfold Hid; funext i; rw [HST.out, HTT.out, Bool.or_false]
    clear hs hd' HST HTT
    go_wp2_with fail
    go_roundw
    case rel => exact ⟨j + 1, by omega, by go_num, by rw [HN.out]; exact HT2.out.mono (by omega), HB2⟩
    case measure => simp [intOf]; omega
   obtain rfl : j = gk.ties.length := by omega
   have HS1 : Hid (∀ i, touchS g l i = ((fun t => (S t || decide (node.id = t)) || (gk.ties.take gk.ties.length).any (tieT node.id t)) i || touchS g2 (l.drop (k + 1)) i)) := fun i => by
    rw [HS.out i, HTB.out i, HTB2.out i, List.take_length]
    simp [Bool.or_assoc]
   obtain ⟨S1, hS1⟩ : ∃ S1 : Int -> Bool, (fun t => (S t || decide (node.id = t)) || (gk.ties.take gk.ties.length).any (tieT node.id t)) = S1 := ⟨_, rfl⟩
   rw [hS1] at HS1 HT
   clear HS HTB HTB2 hS1 hgr x0 x1 z1
   go_upto_region 20 with fail
   have hbo := HB.out
   have y0 := block_cell hbo 0
   have y1 := block_cell hbo 1
   have y2 := block_cell hbo 2
   have y3 := block_cell hbo 3
   have y4 := block_cell hbo 4
   have y5 := block_cell hbo 5
   have y6 := block_cell hbo 6
   have y7 := block_cell hbo 7
   have y8 := block_cell hbo 8
   have y9 := block_cell hbo 9
   have y10 := block_cell hbo 10
   have x0 := block_cell (HT).out.q 0
   have x1 := block_cell (HT).out.q 1
   have hx := HDO.out wr (HT).out.b ((HT).out.h.r (HT).out.b)
   have HTD := HT
   have HSD := HS1
   clear hbo
   go_wp2_with fail
   refine hx.mono ?_
   clear hx y0 y1 y2 y3 y4 y5 y6 y7 y8 y9 y10 x0 x1
   rintro e w5 ⟨un, ut, B5, xs5, rfl, how, hb5⟩
   obtain ⟨A5, c5, rfl, _, _⟩ := how.n.form
   obtain ⟨A6, c6, rfl, _, _⟩ := how.t.form
   have HT5 := Lib.hid (HTD.out.below hb5)
   go_upto_region 21 with fail
   have hz := heap_alloc_new w5 (.cells #[.slice A5 g2.nodes.length c5, .slice A6 g2.ties.length c6] 25)
   have hba : Below w5.heap.size w5 (w5.alloc (.cells #[.slice A5 g2.nodes.length c5, .slice A6 g2.ties.length c6] 25)) := (Below.refl _ _).alloc (Nat.le_refl _) _
   have how6 := how.below hba
   have HT6 := Lib.hid (HT5.out.below hba)
   generalize w5.alloc (.cells #[.slice A5 g2.nodes.length c5, .slice A6 g2.ties.length c6] 25) = w6 at *
   have hq6 := HT6.out.q
   have s0 := setCell_block hq6 0 (.slice A5 g2.nodes.length c5)
   have s1 := setCell_block s0 1 (.slice A6 g2.ties.length c6)
   have HE : Hid (TInv w ((w6.setCell ⟨w.heap.size, 0, none⟩ (.slice A5 g2.nodes.length c5)).setCell ⟨w.heap.size, 1, none⟩ (.slice A6 g2.ties.length c6)) bm (300 * k + 1 + 2 * gk.ties.length) (.slice A5 g2.nodes.length c5) (.slice A6 g2.ties.length c6) g2 S1) := by
    refine ⟨(HT6.out.b.setCell (p := ⟨w.heap.size, 0, none⟩) (Nat.le_refl _) _).setCell (p := ⟨w.heap.size, 1, none⟩) (Nat.le_refl _) _, s1, ?_, ?_⟩
    ·have hh : Held w w6 (.slice A5 g2.nodes.length c5) (.slice A6 g2.ties.length c6) g2 := .inl ⟨B5, xs5, how6⟩
     exact (hh.set hq6 0 _).set s0 1 _
    have h1 := HT6.out.m.of_block (w' := (w6.setCell ⟨w.heap.size, 0, none⟩ (.slice A5 g2.nodes.length c5)).setCell ⟨w.heap.size, 1, none⟩ (.slice A6 g2.ties.length c6)) (by
     rw [Below.heap_setCell _ _ _ _ (by show bm ≠ w.heap.size; omega), Below.heap_setCell _ _ _ _ (by show bm ≠ w.heap.size; omega)])
    exact h1
   have a0 := block_free hq6 0
   have a1 := block_free hq6 1
   have a2 := block_cell hq6 0
   have a3 := block_cell hq6 1
   have a4 := block_cell hz 0
   have a5 := block_cell hz 1
   clear hz hba how how6 HT5 HT6 HTD hq6 s0 s1 hb5 HDO
   go_wp2_with fail
   go_roundw
   case rel => exact ⟨k + 1, _, _, g2, S1, by omega, by go_num, HE.out.mono (by omega), HG2.out, HSD⟩
   case measure => simp [intOf]; omega
  have hw2b : (what == 2) = false := by rw [beq_eq_false_iff_ne]; exact hw2
  have HS1 : Hid (∀ i, touchS g l i = ((fun t => S t || decide (node.id = t)) i || touchS g2 (l.drop (k + 1)) i)) := fun i => by
   rw [HS.out i, HTB.out i, HTB2.out i, decide_eq_false hw2]
   simp only [Bool.false_and, Bool.or_false, Bool.or_assoc]
  obtain ⟨S1, hS1⟩ : ∃ S1 : Int -> Bool, (fun t => S t || decide (node.id = t)) = S1 := ⟨_, rfl⟩
  rw [hS1] at HS1 HIP
  clear HS HTB HTB2 hS1 hw2 hd5 hd6
  go_upto_region 20 with fail
  clear hp z0 z1 z9 z10 v0 v1
  have hbo := HBP.out
  have y0 := block_cell hbo 0
  have y1 := block_cell hbo 1
  have y2 := block_cell hbo 2
  have y3 := block_cell hbo 3
  have y4 := block_cell hbo 4
  have y5 := block_cell hbo 5
  have y6 := block_cell hbo 6
  have y7 := block_cell hbo 7
  have y8 := block_cell hbo 8
  have y9 := block_cell hbo 9
  have y10 := block_cell hbo 10
  have x0 := block_cell (HIP).out.q 0
  have x1 := block_cell (HIP).out.q 1
  have hx := HDO.out wp (HIP).out.b ((HIP).out.h.r (HIP).out.b)
  have HTD := HIP
  have HSD := HS1
  clear hbo
  go_wp2_with fail
  refine hx.mono ?_
  clear hx y0 y1 y2 y3 y4 y5 y6 y7 y8 y9 y10 x0 x1
  rintro e w5 ⟨un, ut, B5, xs5, rfl, how, hb5⟩
  obtain ⟨A5, c5, rfl, _, _⟩ := how.n.form
  obtain ⟨A6, c6, rfl, _, _⟩ := how.t.form
  have HT5 := Lib.hid (HTD.out.below hb5)
  go_upto_region 21 with fail
  have hz := heap_alloc_new w5 (.cells #[.slice A5 g2.nodes.length c5, .slice A6 g2.ties.length c6] 25)
  have hba : Below w5.heap.size w5 (w5.alloc (.cells #[.slice A5 g2.nodes.length c5, .slice A6 g2.ties.length c6] 25)) := (Below.refl _ _).alloc (Nat.le_refl _) _
  have how6 := how.below hba
  have HT6 := Lib.hid (HT5.out.below hba)
  generalize w5.alloc (.cells #[.slice A5 g2.nodes.length c5, .slice A6 g2.ties.length c6] 25) = w6 at *
  have hq6 := HT6.out.q
  have s0 := setCell_block hq6 0 (.slice A5 g2.nodes.length c5)
  have s1 := setCell_block s0 1 (.slice A6 g2.ties.length c6)
  have HE : Hid (TInv w ((w6.setCell ⟨w.heap.size, 0, none⟩ (.slice A5 g2.nodes.length c5)).setCell ⟨w.heap.size, 1, none⟩ (.slice A6 g2.ties.length c6)) bm (300 * k + 1) (.slice A5 g2.nodes.length c5) (.slice A6 g2.ties.length c6) g2 S1) := by
   refine ⟨(HT6.out.b.setCell (p := ⟨w.heap.size, 0, none⟩) (Nat.le_refl _) _).setCell (p := ⟨w.heap.size, 1, none⟩) (Nat.le_refl _) _, s1, ?_, ?_⟩
   ·have hh : Held w w6 (.slice A5 g2.nodes.length c5) (.slice A6 g2.ties.length c6) g2 := .inl ⟨B5, xs5, how6⟩
    exact (hh.set hq6 0 _).set s0 1 _
   have h1 := HT6.out.m.of_block (w' := (w6.setCell ⟨w.heap.size, 0, none⟩ (.slice A5 g2.nodes.length c5)).setCell ⟨w.heap.size, 1, none⟩ (.slice A6 g2.ties.length c6)) (by
    rw [Below.heap_setCell _ _ _ _ (by show bm ≠ w.heap.size; omega), Below.heap_setCell _ _ _ _ (by show bm ≠ w.heap.size; omega)])
   exact h1
  have a0 := block_free hq6 0
  have a1 := block_free hq6 1
  have a2 := block_cell hq6 0
  have a3 := block_cell hq6 1
  have a4 := block_cell hz 0
  have a5 := block_cell hz 1
  clear hz hba how how6 HT5 HT6 HTD hq6 s0 s1 hb5 HDO
  go_wp2_with fail
  go_roundw
  case rel => exact ⟨k + 1, _, _, g2, S1, by omega, by go_num, HE.out.mono (by omega), HG2.out, HSD⟩
  case measure => simp [intOf]; omega
 obtain rfl : k = l.length := by omega
 have hx1 := keysMap_any (some bm) wr
 have hx2 := sortedKeys_any S bm _ wr hI.m (by omega)
 have HS2 : Hid (∀ i, touchS g l i = S i) := fun i => by rw [HS.out i, List.drop_length]; simp [touchS]
 have hbw := hI.b
 clear hI hA hgr HI HS
 go_wp2_with fail
 refine hx1.mono ?_
 clear hx1
 rintro e w4 ⟨rfl, rfl⟩
 go_wp2_with fail
 refine hx2.mono ?_
 clear hx2
 rintro e w5 ⟨v, L, rfl, hL, hasc, hb5⟩
 obtain ⟨Av, cv, rfl, _, _⟩ := hL.form
 have HR := Lib.hid (And.intro hL hasc)
 clear hL hasc
 go_wp2_with fail
 go_ret2
 exact ⟨_, L, by rw [HEV.out.1]; rfl, HR.out.1, fun _ => ⟨HR.out.2.1, HR.out.2.2.1, fun x hx => by rw [HS2.out]; exact HR.out.2.2.2 x hx⟩, fun h => absurd HEV.out.2 h, hbw.trans (hb5.mono hbw.size)⟩
open Go
def RiseI (l : List Int) : Prop := l.Pairwise (· < ·)
def putN (l : List Int) (n : Int) : List Int := if n ∈ l then l else l.filter (fun x => decide (x < n)) ++ n :: l.filter (fun x => decide (n < x))
theorem putN_mem (l : List Int) (n x : Int) : x ∈ putN l n ↔ x ∈ l \/ x = n := by
 unfold putN
 split
 ·rename_i h
  constructor
  ·exact .inl
  rintro (h1 | rfl)
  ·exact h1
  exact h
 simp only [List.mem_append, List.mem_filter, List.mem_cons, decide_eq_true_eq]
 constructor
 ·rintro (h | h | h)
  ·exact .inl h.1
  ·exact .inr h
  exact .inl h.1
 rintro (h | h)
 ·rcases Int.lt_trichotomy x n with h1 | h1 | h1
  ·exact .inl ⟨h, h1⟩
  ·exact .inr (.inl h1)
  exact .inr (.inr ⟨h, h1⟩)
 exact .inr (.inl h)
theorem putN_rise {l : List Int} (h : RiseI l) (n : Int) : RiseI (putN l n) := by
 unfold putN
 split
 ·exact h
 unfold RiseI at *
 rw [List.pairwise_append, List.pairwise_cons]
 refine ⟨h.filter _, ⟨fun a ha => of_decide_eq_true (List.mem_filter.1 ha).2, h.filter _⟩, fun a ha b hb => ?_⟩
 have h1 : a < n := of_decide_eq_true (List.mem_filter.1 ha).2
 rcases List.mem_cons.1 hb with rfl | hb
 ·exact h1
 have h2 : n < b := of_decide_eq_true (List.mem_filter.1 hb).2
 omega
theorem two_filters (n : Int) : ∀ l : List Int, (l.filter fun x => decide (x < n)).length + (l.filter fun x => decide (n < x)).length <= l.length
 | [] => by simp
 | x :: l => by
  have ih := two_filters n l
  by_cases h1 : x < n
  ·have h2 : ¬ n < x := by omega
   simp [h1, h2]; omega
  by_cases h2 : n < x
  ·simp [h1, h2]; omega
  simp [h1, h2]; omega
theorem putN_len (l : List Int) (n : Int) : (putN l n).length <= l.length + 1 := by
 unfold putN
 split
 ·omega
 have := two_filters n l
 rw [List.length_append, List.length_cons]
 omega
theorem putN_has {l : List Int} {k : Nat} {n : Int} (h : l[k]? = some n) : putN l n = l := by
 unfold putN
 rw [if_pos (List.mem_of_getElem? h)]
theorem putN_new {l : List Int} (hr : RiseI l) {k : Nat} (hk : k <= l.length) {n : Int} (h1 : ∀ j x, k <= j -> l[j]? = some x -> n < x) (h2 : ∀ j x, j + 1 = k -> l[j]? = some x -> x < n) : putN l n = l.take k ++ n :: l.drop k := by
 have hlt : ∀ x ∈ l.take k, x < n := by
  intro x hx
  obtain ⟨i, hi⟩ := List.mem_iff_getElem?.1 hx
  have hik : i < k := by have := (List.getElem?_eq_some_iff.1 hi).1; rw [List.length_take] at this; omega
  rw [List.getElem?_take, if_pos hik] at hi
  obtain ⟨hil, rfl⟩ := List.getElem?_eq_some_iff.1 hi
  have hkl : k - 1 < l.length := by omega
  have hlast := h2 (k - 1) l[k - 1] (by omega) (List.getElem?_eq_getElem hkl)
  rcases Nat.lt_or_ge i (k - 1) with h | h
  ·have := List.pairwise_iff_getElem.1 hr i (k - 1) hil hkl h
   omega
  have : i = k - 1 := by omega
  subst this; exact hlast
 have hgt : ∀ x ∈ l.drop k, n < x := by
  intro x hx
  obtain ⟨i, hi⟩ := List.mem_iff_getElem?.1 hx
  rw [List.getElem?_drop] at hi
  exact h1 _ x (by omega) hi
 unfold putN
 have hn : n ∉ l := by
  intro hm
  rw [<- List.take_append_drop k l] at hm
  rcases List.mem_append.1 hm with h | h
  ·have := hlt _ h; omega
  have := hgt _ h; omega
 rw [if_neg hn]
 have e1 : l.filter (fun x => decide (x < n)) = l.take k := by
  conv => lhs; rw [<- List.take_append_drop k l]
  rw [List.filter_append, List.filter_eq_self.2 (fun x hx => decide_eq_true (hlt x hx)), List.filter_eq_nil_iff.2 (fun x hx => by have := hgt x hx; simp; omega), List.append_nil]
 have e2 : l.filter (fun x => decide (n < x)) = l.drop k := by
  conv => lhs; rw [<- List.take_append_drop k l]
  rw [List.filter_append, List.filter_eq_nil_iff.2 (fun x hx => by have := hlt x hx; simp; omega), List.filter_eq_self.2 (fun x hx => decide_eq_true (hgt x hx)), List.nil_append]
 rw [e1, e2]
def putTies (id : Int) : List Tie -> List Int -> List Int
 | [], l => l
 | t :: r, l => putTies id r (if t.src = id \/ t.dst = id then putN (putN l t.src) t.dst else l)
def putOp (g : Grf) (o : Opr) (l : List Int) : List Int :=
 let m := if 5 <= o.what then putN (putN l o.tie.src) o.tie.dst else putN l o.node.id
 if o.what = 2 then putTies o.node.id g.ties m else m
def putAll : Grf -> List Opr -> List Int -> List Int
 | _, [], l => l
 | g, o :: r, l => putAll (opG g o) r (putOp g o l)
theorem putTies_rise (id : Int) : ∀ (ts : List Tie) {l : List Int}, RiseI l -> RiseI (putTies id ts l)
 | [], _, h => h
 | t :: r, l, h => by
  refine putTies_rise id r ?_
  split
  ·exact putN_rise (putN_rise h _) _
  exact h
theorem putOp_rise (g : Grf) (o : Opr) {l : List Int} (h : RiseI l) : RiseI (putOp g o l) := by
 have hm : RiseI (if 5 <= o.what then putN (putN l o.tie.src) o.tie.dst else putN l o.node.id) := by
  split
  ·exact putN_rise (putN_rise h _) _
  exact putN_rise h _
 unfold putOp
 simp only
 split
 ·exact putTies_rise _ _ hm
 exact hm
theorem putAll_rise : ∀ (ops : List Opr) (g : Grf) {l : List Int}, RiseI l -> RiseI (putAll g ops l)
 | [], _, _, h => h
 | o :: r, g, _, h => putAll_rise r _ (putOp_rise g o h)
theorem putTies_mem (id : Int) : ∀ (ts : List Tie) (l : List Int) (x : Int), x ∈ putTies id ts l ↔ x ∈ l \/ ts.any (tieT id x) = true
 | [], l, x => by simp [putTies]
 | t :: r, l, x => by
  show x ∈ putTies id r _ ↔ _
  rw [putTies_mem id r, List.any_cons, Bool.or_eq_true]
  by_cases h : t.src = id \/ t.dst = id
  ·rw [if_pos h, putN_mem, putN_mem]
   have ht : tieT id x t = true ↔ x = t.src \/ x = t.dst := by
    unfold tieT
    simp only [Bool.and_eq_true, Bool.or_eq_true, decide_eq_true_eq]
    constructor
    ·rintro ⟨_, h | h⟩
     ·exact .inl h.symm
     exact .inr h.symm
    rintro (e | e)
    ·exact ⟨h, .inl e.symm⟩
    exact ⟨h, .inr e.symm⟩
   rw [ht, or_assoc, or_assoc, or_assoc]
  rw [if_neg h]
  have ht : tieT id x t = false := by
   unfold tieT
   have h1 : ¬ t.src = id := fun e => h (.inl e)
   have h2 : ¬ t.dst = id := fun e => h (.inr e)
   simp [h1, h2]
  rw [ht]; simp
theorem putOp_mem {g : Grf} {o : Opr} (hw : o.what = 1 \/ o.what = 2 \/ o.what = 3 \/ o.what = 4 \/ o.what = 5 \/ o.what = 6) (l : List Int) (x : Int) : x ∈ putOp g o l ↔ x ∈ l \/ touchB g o x = true := by
 have hs : ∀ a : Int, decide (a = x) = true ↔ x = a := fun a => by rw [decide_eq_true_eq]; exact eq_comm
 have h56 : (5 <= o.what /\ (o.what = 5 \/ o.what = 6) /\ ¬ o.what = 2) \/ (¬ 5 <= o.what /\ ¬ (o.what = 5 \/ o.what = 6)) := by omega
 unfold putOp touchB
 simp only
 rcases h56 with ⟨h1, h2, h3⟩ | ⟨h1, h2⟩
 ·rw [if_pos h1, if_pos h2, if_neg h3, putN_mem, putN_mem, Bool.or_eq_true, hs, hs, or_assoc]
 rw [if_neg h1, if_neg h2, Bool.or_eq_true, hs, Bool.and_eq_true]
 by_cases h3 : o.what = 2
 ·rw [if_pos h3, putTies_mem, putN_mem, or_assoc, decide_eq_true_eq]
  simp [h3]
 rw [if_neg h3, putN_mem, decide_eq_true_eq]
 simp [h3]
theorem putAll_mem : ∀ (ops : List Opr) (g : Grf) (l : List Int) (x : Int), allE g ops = 0 -> (x ∈ putAll g ops l ↔ x ∈ l \/ touchS g ops x = true)
 | [], g, l, x, _ => by simp [putAll, touchS]
 | o :: r, g, l, x, h => by
  have hE : allE g (o :: r) = if opE g o = 0 then allE (opG g o) r else opE g o := rfl
  have h0 : opE g o = 0 := by
   rw [hE] at h
   by_cases h1 : opE g o = 0
   ·exact h1
   rw [if_neg h1] at h; exact absurd h h1
  rw [hE, if_pos h0] at h
  show x ∈ putAll (opG g o) r (putOp g o l) ↔ _
  rw [putAll_mem r _ _ _ h, putOp_mem (op_kinds h0), or_assoc]
  show _ ↔ x ∈ l \/ (touchB g o x || touchS (opG g o) r x) = true
  rw [Bool.or_eq_true]
theorem asc_put {g : Grf} {ops : List Opr} (h : allE g ops = 0) (hi : ∀ x ∈ putAll g ops [], I64 x) : Asc (touchS g ops) (putAll g ops []) :=
 ⟨putAll_rise ops g List.Pairwise.nil, hi, fun x _ => by rw [putAll_mem ops g [] x h]; simp⟩
theorem asc_uniq {S : Int -> Bool} {l m : List Int} (h : Asc S l) (k : Asc S m) : l = m := by
 refine pw_ext (R := fun a b : Int => a < b) (fun a b c h1 h2 => Int.lt_trans h1 h2) (fun a => Int.lt_irrefl a) h.1 k.1 fun x => ?_
 constructor
 ·intro hx; exact (k.2.2 x (h.2.1 x hx)).2 ((h.2.2 x (h.2.1 x hx)).1 hx)
 intro hx; exact (h.2.2 x (k.2.1 x hx)).2 ((k.2.2 x (k.2.1 x hx)).1 hx)
def rfI (l : List Nod) (id : Int) : Int := idxI (fun n => decide (n.id = id)) l
set_option maxHeartbeats 1000000 in
theorem rgfind_any (g : Grf) (vn vt : Value) (id : Int) (w : World) (hG : GrfR w vn vt g) :
 Calls Tryz.prog 45 #[.agg #[vn, vt], .int .i64 id] w fun e w' => e = .returned (.int .i64 (rfI g.nodes id)) /\ Below w.heap.size w w' := by
 obtain ⟨A1, c1, rfl, _, hm1⟩ := hG.1.form
 obtain ⟨A2, c2, rfl, _, hm2⟩ := hG.2.form
 unfold maxLen at hm1 hm2
 have hb0 : Below w.heap.size w (w.alloc (.cells #[.slice A1 g.nodes.length c1, .slice A2 g.ties.length c2] 25)) := (Below.refl _ _).alloc (Nat.le_refl _) _
 obtain ⟨x0, x1⟩ := cell_box2 w (.slice A1 g.nodes.length c1) (.slice A2 g.ties.length c2) 25
 have hf := (hG.below hb0).1
 generalize g.nodes = l at *
 clear hG
 go_enter Tryz.func45, Tryz.ntmps45
 go_wp2_with fail
 generalize w.alloc (.cells #[.slice A1 l.length c1, .slice A2 g.ties.length c2] 25) = w0 at *
 go_loop [5] (fun i => ∃ k : Nat, k <= l.length /\ i = .int .i64 k /\ Hid (∀ j x, j < k -> l[j]? = some x -> decide (x.id = id) = false)) (fun i => l.length - (intOf i).toNat)
 case atStart => exact ⟨0, Nat.zero_le _, rfl, fun j x hj => absurd hj (Nat.not_lt_zero _)⟩
 obtain ⟨k, hk, rfl, HA⟩ := hrel
 by_cases hlt : k < l.length
 ·obtain ⟨d, hd⟩ : ∃ d, l[k]? = some d := ⟨_, List.getElem?_eq_getElem hlt⟩
  obtain ⟨b, o, rfl, u, _, _, _, c0, _, _⟩ := nod_at hf hd
  have hlt' : (k : Int) < (l.length : Int) := by omega
  have HD : Hid (l[k]? = some d) := hd
  clear hd hf
  by_cases hq0 : d.id = id
  ·have HE : Hid (rfI l id = k) := by unfold Hid rfI; exact idxI_hit (p := fun n : Nod => decide (n.id = id)) HA.out HD.out (decide_eq_true hq0)
   have hqb : (d.id == id) = true := by rw [beq_iff_eq]; exact hq0
   clear hq0
   go_wp2_with fail
   go_ret
   exact ⟨by rw [HE.out]; rfl, hb0⟩
  have hqb : (d.id == id) = false := by rw [beq_eq_false_iff_ne]; exact hq0
  have HS : Hid (∀ j y, j < k + 1 -> l[j]? = some y -> decide (y.id = id) = false) := miss_step (p := fun n : Nod => decide (n.id = id)) HA.out HD.out (decide_eq_false hq0)
  clear hq0
  go_wp2_with fail
  go_round
  case rel => exact ⟨k + 1, by omega, by go_num, HS⟩
  case measure => simp [intOf]; omega
 have hkl : k = l.length := by omega
 subst hkl
 have HE : Hid (rfI l id = -1) := by unfold Hid rfI; exact idxI_miss (p := fun n : Nod => decide (n.id = id)) HA.out
 clear hf
 go_wp2_with fail
 go_ret
 exact ⟨by rw [HE.out]; rfl, hb0⟩
theorem drewN_step {w wr : World} (h : ∃ m, wr = w.drewN m) (n : Nat) : ∃ m, wr.drewN n = w.drewN m := by
 obtain ⟨m, rfl⟩ := h
 exact ⟨m + n, World.drewN_drewN ..⟩
theorem lists_eq {D : Type} [DecidableEq D] {a b : List D} (hl : a.length = b.length) (h : ∀ j x y, j < a.length -> a[j]? = some x -> b[j]? = some y -> x = y) : a = b := by
 apply List.ext_getElem?
 intro i
 by_cases hi : i < a.length
 ·have h1 := List.getElem?_eq_getElem hi
  have h2 : b[i]? = some b[i] := List.getElem?_eq_getElem (by omega)
  rw [h1, h2, h i _ _ hi h1 h2]
 rw [List.getElem?_eq_none (by omega), List.getElem?_eq_none (by omega)]
theorem bytes_at (s : ByteArray) (k : Nat) (h : k < s.size) : s.data.toList[k]? = some s[k] := by
 rw [List.getElem?_eq_getElem (by simpa using h)]; rfl
set_option maxHeartbeats 1000000 in
theorem rname_any (s : ByteArray) (w : World) (hs : Sm s) : Calls Tryz.prog 76 #[.string s] w fun e w' => e = .returned (.int .i64 (nameE s)) /\ w = w' := by
 unfold Sm at hs
 by_cases h0 : s.toList.isEmpty = true
 ·have HE : Hid (nameE s = 2) := by unfold Hid nameE; rw [if_pos h0]
  have h1 : s.toList = [] := by simpa using h0
  clear h0
  go_enter Tryz.func76, Tryz.ntmps76
  go_wp2_with fail
  go_ret
  exact ⟨by rw [HE.out]; rfl, rfl⟩
 have h1 : s.toList.isEmpty = false := by simpa using h0
 have h2 : ¬ s.toList = [] := by intro e; rw [e] at h1; simp at h1
 by_cases h8 : 8 < s.size
 ·have HE : Hid (nameE s = 2) := by unfold Hid nameE; rw [if_neg h0, if_pos h8]
  have h8' : (8 : Int) < (s.size : Int) := by omega
  clear h0
  go_enter Tryz.func76, Tryz.ntmps76
  go_wp2_with fail
  go_ret
  exact ⟨by rw [HE.out]; rfl, rfl⟩
 have h8' : (s.size : Int) <= 8 := by omega
 have HE0 : Hid (nameE s = if s.data.toList.any nameC then 2 else 0) := by unfold Hid nameE; rw [if_neg h0, if_neg h8]
 clear h0
 go_enter Tryz.func76, Tryz.ntmps76
 go_wp2_with fail
 go_loop [3] (fun i => ∃ k : Nat, k <= s.size /\ i = .int .i64 k /\ Hid (∀ j x, j < k -> s.data.toList[j]? = some x -> nameC x = false)) (fun i => s.size - (intOf i).toNat)
 case atStart => exact ⟨0, Nat.zero_le _, rfl, fun j x hj => absurd hj (Nat.not_lt_zero _)⟩
 obtain ⟨k, hk, rfl, HA⟩ := hrel
 by_cases hlt : k < s.size
 ·have hlt' : (k : Int) < (s.size : Int) := by omega
  have HB := Lib.hid (bytes_at s k hlt)
  by_cases hlo : (s[k].toNat : Int) < 97
  ·have HE : Hid (nameE s = 2) := by
    unfold Hid; rw [HE0.out, if_pos]
    exact List.any_eq_true.2 ⟨_, List.mem_of_getElem? HB.out, by unfold nameC; rw [decide_eq_true hlo]; rfl⟩
   clear HE0
   go_wp2_with fail
   go_ret
   exact ⟨by rw [HE.out]; rfl, rfl⟩
  have hlo' : (97 : Int) <= (s[k].toNat : Int) := by omega
  by_cases hhi : (122 : Int) < (s[k].toNat : Int)
  ·have HE : Hid (nameE s = 2) := by
    unfold Hid; rw [HE0.out, if_pos]
    exact List.any_eq_true.2 ⟨_, List.mem_of_getElem? HB.out, by unfold nameC; rw [decide_eq_true hhi]; simp⟩
   clear HE0
   go_wp2_with fail
   go_ret
   exact ⟨by rw [HE.out]; rfl, rfl⟩
  have hhi' : (s[k].toNat : Int) <= 122 := by omega
  have HS : Hid (∀ j x, j < k + 1 -> s.data.toList[j]? = some x -> nameC x = false) := miss_step HA.out HB.out (by unfold nameC; rw [decide_eq_false hlo, decide_eq_false hhi]; rfl)
  clear hlo hhi HE0
  go_wp2_with fail
  go_round
  case rel => exact ⟨k + 1, by omega, by go_num, HS⟩
  case measure => simp [intOf]; omega
 obtain rfl : k = s.size := by omega
 have HE : Hid (nameE s = 0) := by
  unfold Hid; rw [HE0.out, if_neg]
  intro h
  obtain ⟨x, hx, hc⟩ := List.any_eq_true.1 h
  obtain ⟨j, hj⟩ := List.mem_iff_getElem?.1 hx
  have := HA.out j x (by have := (List.getElem?_eq_some_iff.1 hj).1; simpa using this) hj
  rw [this] at hc; cases hc
 clear HE0
 go_wp2_with fail
 go_ret
 exact ⟨by rw [HE.out]; rfl, rfl⟩
set_option maxHeartbeats 1000000 in
theorem rkind_any (l : List Knd) (name : ByteArray) (v : Value) (w : World) (hv : Sl kndL w v l) : Calls Tryz.prog 59 #[v, .string name] w fun e w' => e = .returned (.int .i64 (kFind l name)) /\ w = w' := by
 obtain ⟨A, c, rfl, hlc, hcm⟩ := hv.form
 unfold maxLen at hcm
 go_enter Tryz.func59, Tryz.ntmps59
 go_wp2_with fail
 go_loop [5] (fun i => ∃ k : Nat, k <= l.length /\ i = .int .i64 k /\ Hid (∀ j x, j < k -> l[j]? = some x -> decide (x.name = name) = false)) (fun i => l.length - (intOf i).toNat)
 case atStart => exact ⟨0, Nat.zero_le _, rfl, fun j x hj => absurd hj (Nat.not_lt_zero _)⟩
 obtain ⟨k, hk, rfl, HA⟩ := hrel
 by_cases hlt : k < l.length
 ·obtain ⟨d, hd⟩ : ∃ d, l[k]? = some d := ⟨_, List.getElem?_eq_getElem hlt⟩
  obtain ⟨b, o, rfl, u, x, _, _, _, c0, _, _⟩ := knd_at hv hd
  have HD : Hid (l[k]? = some d) := hd
  clear hd hv
  by_cases hq0 : d.name = name
  ·have hq : decide (d.name = name) = true := decide_eq_true hq0
   have HE : Hid (kFind l name = k) := by unfold Hid kFind; exact idxI_hit (p := fun k : Knd => decide (k.name = name)) HA.out HD.out hq
   clear hq
   subst hq0
   go_wp2_with fail
   go_ret
   exact ⟨by rw [HE.out]; rfl, rfl⟩
  have hq : decide (d.name = name) = false := decide_eq_false hq0
  have hqb : (d.name.toList == name.toList) = false := by rw [bytes_beq]; exact hq
  have HS : Hid (∀ j y, j < k + 1 -> l[j]? = some y -> decide (y.name = name) = false) := miss_step (p := fun k : Knd => decide (k.name = name)) HA.out HD.out hq
  go_wp2_with fail
  go_round
  case rel => exact ⟨k + 1, by omega, by go_num, HS⟩
  case measure => simp [intOf]; omega
 have hkl : k = l.length := by omega
 subst hkl
 have HE : Hid (kFind l name = -1) := by unfold Hid kFind; exact idxI_miss (p := fun k : Knd => decide (k.name = name)) HA.out
 clear hv
 go_wp2_with fail
 go_ret
 exact ⟨by rw [HE.out]; rfl, rfl⟩
end Go.Proofs.YtngbbefpphinjaaGreatDoor
