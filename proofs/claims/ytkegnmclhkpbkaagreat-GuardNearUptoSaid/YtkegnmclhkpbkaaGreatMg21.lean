/- Parts: Tch, OwnT, ChA, ChP. -/
import Derived.Test.YtkegnmclhkpbkaaGreatMg03
import Derived.Test.YtkegnmclhkpbkaaGreatMg11
import Derived.Test.YtkegnmclhkpbkaaGreatMg19
import Derived.Test.YtkegnmclhkpbkaaGreatMg20
import Derived.Deep.DeepCutAuto
import Derived.BigRegion
import Derived.Test.YtkegnmclhkpbkaaGreatMg18
import Derived.Deep.RegionHeld3
import Derived.Deep.RegionLaw
/- Contract: guard.Touched: which nodes ops touch, ascending. No condition. -/
namespace Go.Proofs.YtkegnmclhkpbkaaGreat
open Go Go.RowKit


def tieT (id i : Int) (t : Tie) : Bool := (decide (t.src = id) || decide (t.dst = id)) && (decide (t.src = i) || decide (t.dst = i))
def touchB (g : Grf) (o : Opr) (i : Int) : Bool :=
  if o.what = 5 ∨ o.what = 6 then decide (o.tie.src = i) || decide (o.tie.dst = i)
  else decide (o.node.id = i) || (decide (o.what = 2) && g.ties.any (tieT o.node.id i))
def touchS : Grf → List Opr → Int → Bool
  | _, [], _ => false
  | g, o :: r, i => touchB g o i || touchS (opG g o) r i
theorem touchB_iff (g : Grf) (o : Opr) (i : Int) : touchB g o i = true ↔ touchG g o i := by
  unfold touchB touchG
  split
  · simp only [Bool.or_eq_true, decide_eq_true_eq]
    exact or_congr eq_comm eq_comm
  · simp only [Bool.or_eq_true, Bool.and_eq_true, decide_eq_true_eq, List.any_eq_true, tieT]
    refine or_congr eq_comm (and_congr Iff.rfl ⟨fun ⟨t, h1, h2, h3⟩ => ⟨t, h1, h2, h3.imp Eq.symm Eq.symm⟩, fun ⟨t, h1, h2, h3⟩ => ⟨t, h1, h2, h3.imp Eq.symm Eq.symm⟩⟩)
theorem touchS_iff : ∀ (g : Grf) (l : List Opr) (i : Int), touchS g l i = true ↔ touchL g l i
  | _, [], _ => by simp [touchS, touchL]
  | g, o :: r, i => by
    show (touchB g o i || touchS (opG g o) r i) = true ↔ touchG g o i ∨ touchL (opG g o) r i
    rw [Bool.or_eq_true, touchB_iff, touchS_iff]
theorem touchS_at {l : List Opr} {k : Nat} {o : Opr} (h : l[k]? = some o) (g : Grf) (i : Int) : touchS g (l.drop k) i = (touchB g o i || touchS (opG g o) (l.drop (k + 1)) i) := by rw [drop_cons h]; rfl
/-- What stands between two rounds. -/
structure TInv (w wx : World) (bm N : Nat) (vn vt : Value) (gk : Grf) (S : Int → Bool) : Prop where
  b : Below w.heap.size w wx
  q : wx.heap[w.heap.size]? = some (.cells #[vn, vt] 29 (0, 0))
  h : Held w wx vn vt gk
  m : MapB wx bm N S
section
variable {w wx wy : World} {bm N : Nat} {vn vt : Value} {gk : Grf} {S : Int → Bool}
theorem TInv.below (h : TInv w wx bm N vn vt gk S) (hb : Below wx.heap.size wx wy) : TInv w wy bm N vn vt gk S :=
  ⟨h.b.trans (hb.mono h.b.size), (hb.block _ (Array.getElem?_eq_some_iff.1 h.q).1).trans h.q, h.h.below hb, h.m.below hb⟩
theorem TInv.mono (h : TInv w wx bm N vn vt gk S) {M : Nat} (hM : N ≤ M) : TInv w wx bm M vn vt gk S := ⟨h.b, h.q, h.h, h.m.mono hM⟩
theorem TInv.put (h : TInv w wx bm N vn vt gk S) (hbm : w.heap.size < bm) (hN : N ≤ 100000) {x : Int} (hx : I64 x) :
    ∃ wy, (Instr.mapUpdate 62 (.map (some bm)) (.int .i64 x) (.bool true)).run Tryz.prog wx = .ok () wy ∧ TInv w wy bm (N + 1) vn vt gk (fun t => S t || decide (x = t)) ∧ ∀ T, Same T wx wy := by
  obtain ⟨wy, h1, h2, h3⟩ := h.m.put (by unfold maxLen; omega) hx
  have hs := fun T => h.m.same h3 T
  exact ⟨wy, h1, ⟨h.b.grown h3 h.b.size (fun k e => by injection e with e; omega), hs _ _ _ _ h.q, h.h.put hs, h2⟩, hs⟩
end

theorem dall_parts {g : Grf} {l : List Opr} (h : dallE g l = 0) : l.length ≤ 40 ∧ grfE g = 0 ∧ allE g l = 0 := by
  unfold dallE at h
  split at h
  · simp at h
  · split at h
    · rename_i h1 h2; exact ⟨by omega, h2, h⟩
    · rename_i _ h2; exact absurd h h2
set_option maxRecDepth 100000 in
set_option maxHeartbeats 32000000 in
theorem touched_any (g : Grf) (l : List Opr) (vn vt vl : Value) (w : World) (hG : GrfR w vn vt g) (hL : Sl oprL w vl l) :
    Calls Tryz.prog 4 #[.agg #[vn, vt], vl] w fun e w' => ∃ v L, e = .returned (.tuple #[v, errV (dallE g l)]) ∧ Sl intL w' v L ∧ (dallE g l = 0 → Asc (touchS g l) L) ∧ (dallE g l ≠ 0 → L = []) ∧ Below w.heap.size w w' := by
  obtain ⟨A1, c1, rfl, _, _⟩ := hG.1.form
  obtain ⟨A2, c2, rfl, _, _⟩ := hG.2.form
  obtain ⟨Al, cl, rfl, _, _⟩ := hL.form
  have hb0 : Below w.heap.size w (w.alloc (.cells #[.slice A1 g.nodes.length c1, .slice A2 g.ties.length c2] 29)) := (Below.refl _ _).alloc (Nat.le_refl _) _
  have hq0 := heap_alloc_new w (.cells #[.slice A1 g.nodes.length c1, .slice A2 g.ties.length c2] 29)
  have x0 := block_cell hq0 0
  have x1 := block_cell hq0 1
  have hx := dall_any g l _ _ _ _ (hG.below hb0) (hL.below hb0)
  have HG := Lib.hid hG
  have HL := Lib.hid hL
  have HDP : Hid (dallE g l = 0 → l.length ≤ 40 ∧ grfE g = 0 ∧ allE g l = 0) := dall_parts
  unfold RetA at hx
  generalize dallE g l = de at *
  generalize dallI g l = di at *
  generalize dallG g l = og at *
  clear hG hL
  go_enter Tryz.func4, Tryz.ntmps4
  go_wp2_with fail
  refine hx.mono ?_
  clear hx x0 x1
  rintro e w1 ⟨un, ut, rfl, hr, hb1⟩
  obtain ⟨A3, c3, rfl, _, _⟩ := hr.1.form
  obtain ⟨A4, c4, rfl, _, _⟩ := hr.2.form
  have hB1 := hb0.trans (hb1.mono hb0.size)
  have hq1 := (hb1.block _ (Array.getElem?_eq_some_iff.1 hq0).1).trans hq0
  clear hr hb1 hb0 hq0
  go_upto_region 2 with fail
  have hba : Below w1.heap.size w1 (w1.alloc (.cells #[.slice A3 og.nodes.length c3, .slice A4 og.ties.length c4] 29)) := (Below.refl _ _).alloc (Nat.le_refl _) _
  generalize w1.alloc (.cells #[.slice A3 og.nodes.length c3, .slice A4 og.ties.length c4] 29) = w2 at *
  have hB2 := hB1.trans (hba.mono hB1.size)
  have hq2 := (hba.block _ (Array.getElem?_eq_some_iff.1 hq1).1).trans hq1
  by_cases hz : de = 0
  case neg =>
    have HEV : Hid (errV de = .iface 69 (.int .i64 de)) := errV_some hz
    have HZ := Lib.hid hz
    rw [errV_some hz]
    clear hz hq1 hq2
    go_wp2_with fail
    go_ret2
    exact ⟨_, [], by rw [HEV.out]; rfl, Sl.nil 0 (Nat.zero_le _) none, fun h => absurd h HZ.out, fun _ => rfl, hB2⟩
  obtain ⟨hl40, hg0, hall⟩ := HDP.out hz
  have HEV : Hid (errV de = .nilIface ∧ de = 0) := ⟨errV_zero hz, hz⟩
  rw [errV_zero hz]
  have hmm := @run_makeMap Tryz.prog
  have hbm0 : Below w2.heap.size w2 (w2.alloc (.map #[] 0)) := (Below.refl _ _).alloc (Nat.le_refl _) _
  have hM0 := MapB.made w2
  have hsz : w.heap.size < w2.heap.size := (Array.getElem?_eq_some_iff.1 hq2).1
  have HI0 : Hid (TInv w (w2.alloc (.map #[] 0)) w2.heap.size 0 (.slice A1 g.nodes.length c1) (.slice A2 g.ties.length c2) g (fun _ => false)) :=
    ⟨hB2.trans (hbm0.mono hB2.size), (hbm0.block _ hsz).trans hq2, .inr HG.out, hM0⟩
  have HA0 : Hid (grfE g = 0 ∧ allE g l = 0) := ⟨hg0, hall⟩
  clear hz HDP hg0 hall hq1 hM0 hbm0 hba hB1 hB2 hq2
  obtain ⟨bm, hbm⟩ : ∃ bm, bm = w2.heap.size := ⟨_, rfl⟩
  rw [← hbm] at HI0 hsz
  go_wp2_with fail
  rw [← hbm]
  generalize w2.alloc (.map #[] 0) = w3 at *
  clear hmm hbm
  go_loopw [29] (fun i wr => ∃ (k : Nat) (vn vt : Value) (gk : Grf) (S : Int → Bool), k ≤ l.length ∧ i = .int .i64 k ∧ TInv w wr bm (300 * k) vn vt gk S ∧ (grfE gk = 0 ∧ allE gk (l.drop k) = 0) ∧ Hid (∀ i, touchS g l i = (S i || touchS gk (l.drop k) i))) (fun i _ => l.length - (intOf i).toNat)
  case atStart => exact ⟨0, _, _, g, _, Nat.zero_le _, rfl, HI0.out, HA0.out, fun i => by simp⟩
  case round =>
    clear HI0 HA0
    obtain ⟨k, vn, vt, gk, S, hk, rfl, hI, hA, HS⟩ := hrel
    have HI := Lib.hid hI
    have hgr := hI.h.r hI.b
    obtain ⟨An, cn, rfl, _, _⟩ := hgr.1.form
    obtain ⟨At, ct, rfl, _, _⟩ := hgr.2.form
    by_cases hlt : k < l.length
    · obtain ⟨⟨what, node, prop, tie⟩, hd⟩ : ∃ d, l[k]? = some d := ⟨_, List.getElem?_eq_getElem hlt⟩
      have hlt' : (k : Int) < (l.length : Int) := by omega
      obtain ⟨a1, a2, a3⟩ := all_at hd gk
      have hoe : opE gk ⟨what, node, prop, tie⟩ = 0 := by
        by_cases h0 : opE gk ⟨what, node, prop, tie⟩ = 0
        · exact h0
        · rw [if_neg h0] at a1; rw [← a1]; exact hA.2
      rw [if_pos hoe] at a1
      have hr2 := op_right hA.1 hoe
      have hdE : doE gk ⟨what, node, prop, tie⟩ = 0 := by unfold doE; rw [if_pos hA.1]; exact hoe
      have hdG : doG gk ⟨what, node, prop, tie⟩ = opG gk ⟨what, node, prop, tie⟩ := by unfold doG; rw [if_pos hdE]
      have HTB : Hid (∀ i, touchS gk (l.drop k) i = (touchB gk ⟨what, node, prop, tie⟩ i || touchS (opG gk ⟨what, node, prop, tie⟩) (l.drop (k + 1)) i)) := touchS_at hd gk
      obtain ⟨g2, hg2⟩ : ∃ g2, opG gk ⟨what, node, prop, tie⟩ = g2 := ⟨_, rfl⟩
      rw [hg2] at a1 hr2 hdG HTB
      have HG2 : Hid (grfE g2 = 0 ∧ allE g2 (l.drop (k + 1)) = 0) := ⟨hr2, by rw [← a1]; exact hA.2⟩
      have HTL : Hid (gk.ties.length ≤ 120) := (grf_ok hA.1).2.1
      have HGT := Lib.hid hgr.2
      obtain ⟨ob, oo, vr, hAl, hor, hcells⟩ := opr_at HL.out hd
      subst hAl
      obtain ⟨Ar, cr, hvr, _, _⟩ := hor.r.form
      have hvr : vr = .slice Ar node.props.length cr := hvr
      subst hvr
      have q0 : wr.cell? ⟨ob, oo + k * 11, none⟩ = some (.int .i64 what) := by have := cell_below hI.b (hcells 0 (.int .i64 what) rfl); simpa using this
      have q1 : wr.cell? ⟨ob, oo + k * 11 + 1, none⟩ = some (.int .i64 node.id) := cell_below hI.b (hcells 1 _ rfl)
      have q2 : wr.cell? ⟨ob, oo + k * 11 + 2, none⟩ = some (.string node.kind) := cell_below hI.b (hcells 2 _ rfl)
      have q3 : wr.cell? ⟨ob, oo + k * 11 + 3, none⟩ = some (.slice Ar node.props.length cr) := cell_below hI.b (hcells 3 _ rfl)
      have q4 : wr.cell? ⟨ob, oo + k * 11 + 4, none⟩ = some (.string prop.name) := cell_below hI.b (hcells 4 _ rfl)
      have q5 : wr.cell? ⟨ob, oo + k * 11 + 5, none⟩ = some (.int .i64 prop.v.ty) := cell_below hI.b (hcells 5 _ rfl)
      have q6 : wr.cell? ⟨ob, oo + k * 11 + 6, none⟩ = some (.int .i64 prop.v.n) := cell_below hI.b (hcells 6 _ rfl)
      have q7 : wr.cell? ⟨ob, oo + k * 11 + 7, none⟩ = some (.string prop.v.s) := cell_below hI.b (hcells 7 _ rfl)
      have q8 : wr.cell? ⟨ob, oo + k * 11 + 8, none⟩ = some (.string tie.bond) := cell_below hI.b (hcells 8 _ rfl)
      have q9 : wr.cell? ⟨ob, oo + k * 11 + 9, none⟩ = some (.int .i64 tie.src) := cell_below hI.b (hcells 9 _ rfl)
      have q10 : wr.cell? ⟨ob, oo + k * 11 + 10, none⟩ = some (.int .i64 tie.dst) := cell_below hI.b (hcells 10 _ rfl)
      have HOR := Lib.hid hor
      have HDO : Hid (∀ W, Below w.heap.size w W → GrfR W (.slice An gk.nodes.length cn) (.slice At gk.ties.length ct) gk → Calls Tryz.prog 12 #[.agg #[.slice An gk.nodes.length cn, .slice At gk.ties.length ct], .agg #[.int .i64 what, .int .i64 node.id, .string node.kind, .slice Ar node.props.length cr, .string prop.name, .int .i64 prop.v.ty, .int .i64 prop.v.n, .string prop.v.s, .string tie.bond, .int .i64 tie.src, .int .i64 tie.dst]] W
          fun e w' => ∃ vn vt B xs, e = .returned (.tuple #[.agg #[vn, vt], .nilIface]) ∧ OwnG w' B vn vt g2 xs ∧ Below W.heap.size W w') := fun W hW hr => by
        refine (Do_own _ ⟨what, node, prop, tie⟩ _ _ (.slice Ar node.props.length cr) W hr (HOR.out.below hW)).mono ?_
        rintro e w' ⟨a1, a2, h1, ⟨xs, h2⟩, h3⟩
        rw [hdE, errV_zero rfl] at h1
        rw [hdG] at h2
        exact ⟨a1, a2, _, xs, h1, h2, h3⟩
      have hbk := heap_alloc_new wr (.cells #[.int .i64 what, .int .i64 node.id, .string node.kind, .slice Ar node.props.length cr, .string prop.name, .int .i64 prop.v.ty, .int .i64 prop.v.n, .string prop.v.s, .string tie.bond, .int .i64 tie.src, .int .i64 tie.dst] 47)
      have ha1 : Below wr.heap.size wr (wr.alloc (.cells #[.int .i64 what, .int .i64 node.id, .string node.kind, .slice Ar node.props.length cr, .string prop.name, .int .i64 prop.v.ty, .int .i64 prop.v.n, .string prop.v.s, .string tie.bond, .int .i64 tie.src, .int .i64 tie.dst] 47)) := (Below.refl _ _).alloc (Nat.le_refl _) _
      clear hd hA hgr hor hcells hoe hr2 hdE hdG hg2 a1 a2 a3 hI
      go_upto_region 8 with fail
      generalize wr.alloc (.cells #[.int .i64 what, .int .i64 node.id, .string node.kind, .slice Ar node.props.length cr, .string prop.name, .int .i64 prop.v.ty, .int .i64 prop.v.n, .string prop.v.s, .string tie.bond, .int .i64 tie.src, .int .i64 tie.dst] 47) = wa at *
      have HIa := Lib.hid (HI.out.below ha1)
      obtain ⟨bo, hbo⟩ : ∃ bo, bo = wr.heap.size := ⟨_, rfl⟩
      rw [← hbo] at hbk ⊢
      have HBK := Lib.hid hbk
      have z0 := block_cell hbk 0
      have z1 := block_cell hbk 1
      have z9 := block_cell hbk 9
      have z10 := block_cell hbk 10
      clear q0 q1 q2 q3 q4 q5 q6 q7 q8 q9 q10 HI ha1 hbo hbk
      by_cases hw56 : what = 5 ∨ what = 6
      · have HS1 : Hid (∀ i, touchS g l i = ((fun t => (S t || decide (tie.src = t)) || decide (tie.dst = t)) i || touchS g2 (l.drop (k + 1)) i)) := fun i => by
          rw [HS.out i, HTB.out i]
          have : touchB gk ⟨what, node, prop, tie⟩ i = (decide (tie.src = i) || decide (tie.dst = i)) := by unfold touchB; rw [if_pos hw56]
          rw [this]
          simp only [Bool.or_assoc]
        obtain ⟨S1, hS1⟩ : ∃ S1 : Int → Bool, (fun t => (S t || decide (tie.src = t)) || decide (tie.dst = t)) = S1 := ⟨_, rfl⟩
        rw [hS1] at HS1
        have HSE := Lib.hid hS1
        clear HS HTB hS1
        obtain rfl | rfl := hw56
        · have hId : TInv w wa.drew bm (300 * k) (.slice An gk.nodes.length cn) (.slice At gk.ties.length ct) gk S := HIa.out.below (Below.refl wa.heap.size wa).drew
          have hbd : wa.drew.heap[bo]? = _ := HBK.out
          obtain ⟨wp, hp, hIp, hsp⟩ := hId.put hsz (by omega) HOR.out.t.2.1
          have hbp := hsp _ _ _ _ hbd
          obtain ⟨wp2, hp2, hIp2, hsp2⟩ := hIp.put hsz (by omega) HOR.out.t.2.2
          rw [HSE.out] at hIp2
          have HIP := Lib.hid hIp2
          have hbkp := hsp2 _ _ _ _ hbp
          have d9 := block_cell hbd 9
          have d10 := block_cell hbd 10
          have e9 := block_cell hbp 9
          have e10 := block_cell hbp 10
          have v0 := block_cell hbkp 0
          have HBP := Lib.hid hbkp
          clear hId hbd hIp hIp2 hsp hsp2 hbp hbkp HIa HBK
          go_wp2_with fail
          go_region
          clear hp hp2 z0 z1 z9 z10 d9 d10 e9 e10
          go_upto_region 20 with fail
          clear v0
          -- the op is done: wp2: the world; HIP: the state's Hid there (TInv w wp2 bm N1 vn vt gk S1); HBP.out: that the op's box stands there; 300 * k + 1 + 1: the count; HS1: S1 is what is wanted
          have hbo := HBP.out
          have y0 := block_cell hbo 0
          have y1 := block_cell hbo 1
          have y2 := block_cell hbo 2
          have y3 := block_cell hbo 3
          have y4 := block_cell hbo 4
          have y5 := block_cell hbo 5
          have y6 := block_cell hbo 6
          have y7 := block_cell hbo 7
          have y8 := block_cell hbo 8
          have y9 := block_cell hbo 9
          have y10 := block_cell hbo 10
          have x0 := block_cell (HIP).out.q 0
          have x1 := block_cell (HIP).out.q 1
          have hx := HDO.out wp2 (HIP).out.b ((HIP).out.h.r (HIP).out.b)
          have HTD := HIP
          have HSD := HS1
          clear hbo
          go_wp2_with fail
          refine hx.mono ?_
          clear hx y0 y1 y2 y3 y4 y5 y6 y7 y8 y9 y10 x0 x1
          rintro e w5 ⟨un, ut, B5, xs5, rfl, how, hb5⟩
          obtain ⟨A5, c5, rfl, _, _⟩ := how.n.form
          obtain ⟨A6, c6, rfl, _, _⟩ := how.t.form
          have HT5 := Lib.hid (HTD.out.below hb5)
          go_upto_region 21 with fail
          have hz := heap_alloc_new w5 (.cells #[.slice A5 g2.nodes.length c5, .slice A6 g2.ties.length c6] 29)
          have hba : Below w5.heap.size w5 (w5.alloc (.cells #[.slice A5 g2.nodes.length c5, .slice A6 g2.ties.length c6] 29)) := (Below.refl _ _).alloc (Nat.le_refl _) _
          have how6 := how.below hba
          have HT6 := Lib.hid (HT5.out.below hba)
          generalize w5.alloc (.cells #[.slice A5 g2.nodes.length c5, .slice A6 g2.ties.length c6] 29) = w6 at *
          have hq6 := HT6.out.q
          have s0 := setCell_block hq6 0 (.slice A5 g2.nodes.length c5)
          have s1 := setCell_block s0 1 (.slice A6 g2.ties.length c6)
          have HE : Hid (TInv w ((w6.setCell ⟨w.heap.size, 0, none⟩ (.slice A5 g2.nodes.length c5)).setCell ⟨w.heap.size, 1, none⟩ (.slice A6 g2.ties.length c6)) bm (300 * k + 1 + 1) (.slice A5 g2.nodes.length c5) (.slice A6 g2.ties.length c6) g2 S1) := by
            refine ⟨(HT6.out.b.setCell (p := ⟨w.heap.size, 0, none⟩) (Nat.le_refl _) _).setCell (p := ⟨w.heap.size, 1, none⟩) (Nat.le_refl _) _, s1, ?_, ?_⟩
            · have hh : Held w w6 (.slice A5 g2.nodes.length c5) (.slice A6 g2.ties.length c6) g2 := .inl ⟨B5, xs5, how6⟩
              exact (hh.set hq6 0 _).set s0 1 _
            · have h1 := HT6.out.m.of_block (w' := (w6.setCell ⟨w.heap.size, 0, none⟩ (.slice A5 g2.nodes.length c5)).setCell ⟨w.heap.size, 1, none⟩ (.slice A6 g2.ties.length c6)) (by
                rw [Below.heap_setCell _ _ _ _ (by show bm ≠ w.heap.size; omega), Below.heap_setCell _ _ _ _ (by show bm ≠ w.heap.size; omega)])
              exact h1
          have a0 := block_free hq6 0
          have a1 := block_free hq6 1
          have a2 := block_cell hq6 0
          have a3 := block_cell hq6 1
          have a4 := block_cell hz 0
          have a5 := block_cell hz 1
          clear hz hba how how6 HT5 HT6 HTD hq6 s0 s1 hb5 HDO
          go_wp2_with fail
          go_roundw
          case rel => exact ⟨k + 1, _, _, g2, S1, by omega, by go_num, HE.out.mono (by omega), HG2.out, HSD⟩
          case measure => simp [intOf]; omega
        · have hId : TInv w wa.drew bm (300 * k) (.slice An gk.nodes.length cn) (.slice At gk.ties.length ct) gk S := HIa.out.below (Below.refl wa.heap.size wa).drew
          have hbd : wa.drew.heap[bo]? = _ := HBK.out
          obtain ⟨wp, hp, hIp, hsp⟩ := hId.put hsz (by omega) HOR.out.t.2.1
          have hbp := hsp _ _ _ _ hbd
          obtain ⟨wp2, hp2, hIp2, hsp2⟩ := hIp.put hsz (by omega) HOR.out.t.2.2
          rw [HSE.out] at hIp2
          have HIP := Lib.hid hIp2
          have hbkp := hsp2 _ _ _ _ hbp
          have d9 := block_cell hbd 9
          have d10 := block_cell hbd 10
          have e9 := block_cell hbp 9
          have e10 := block_cell hbp 10
          have v0 := block_cell hbkp 0
          have HBP := Lib.hid hbkp
          clear hId hbd hIp hIp2 hsp hsp2 hbp hbkp HIa HBK
          go_wp2_with fail
          go_region
          clear hp hp2 z0 z1 z9 z10 d9 d10 e9 e10
          go_upto_region 20 with fail
          clear v0
          -- the op is done: wp2: the world; HIP: the state's Hid there (TInv w wp2 bm N1 vn vt gk S1); HBP.out: that the op's box stands there; 300 * k + 1 + 1: the count; HS1: S1 is what is wanted
          have hbo := HBP.out
          have y0 := block_cell hbo 0
          have y1 := block_cell hbo 1
          have y2 := block_cell hbo 2
          have y3 := block_cell hbo 3
          have y4 := block_cell hbo 4
          have y5 := block_cell hbo 5
          have y6 := block_cell hbo 6
          have y7 := block_cell hbo 7
          have y8 := block_cell hbo 8
          have y9 := block_cell hbo 9
          have y10 := block_cell hbo 10
          have x0 := block_cell (HIP).out.q 0
          have x1 := block_cell (HIP).out.q 1
          have hx := HDO.out wp2 (HIP).out.b ((HIP).out.h.r (HIP).out.b)
          have HTD := HIP
          have HSD := HS1
          clear hbo
          go_wp2_with fail
          refine hx.mono ?_
          clear hx y0 y1 y2 y3 y4 y5 y6 y7 y8 y9 y10 x0 x1
          rintro e w5 ⟨un, ut, B5, xs5, rfl, how, hb5⟩
          obtain ⟨A5, c5, rfl, _, _⟩ := how.n.form
          obtain ⟨A6, c6, rfl, _, _⟩ := how.t.form
          have HT5 := Lib.hid (HTD.out.below hb5)
          go_upto_region 21 with fail
          have hz := heap_alloc_new w5 (.cells #[.slice A5 g2.nodes.length c5, .slice A6 g2.ties.length c6] 29)
          have hba : Below w5.heap.size w5 (w5.alloc (.cells #[.slice A5 g2.nodes.length c5, .slice A6 g2.ties.length c6] 29)) := (Below.refl _ _).alloc (Nat.le_refl _) _
          have how6 := how.below hba
          have HT6 := Lib.hid (HT5.out.below hba)
          generalize w5.alloc (.cells #[.slice A5 g2.nodes.length c5, .slice A6 g2.ties.length c6] 29) = w6 at *
          have hq6 := HT6.out.q
          have s0 := setCell_block hq6 0 (.slice A5 g2.nodes.length c5)
          have s1 := setCell_block s0 1 (.slice A6 g2.ties.length c6)
          have HE : Hid (TInv w ((w6.setCell ⟨w.heap.size, 0, none⟩ (.slice A5 g2.nodes.length c5)).setCell ⟨w.heap.size, 1, none⟩ (.slice A6 g2.ties.length c6)) bm (300 * k + 1 + 1) (.slice A5 g2.nodes.length c5) (.slice A6 g2.ties.length c6) g2 S1) := by
            refine ⟨(HT6.out.b.setCell (p := ⟨w.heap.size, 0, none⟩) (Nat.le_refl _) _).setCell (p := ⟨w.heap.size, 1, none⟩) (Nat.le_refl _) _, s1, ?_, ?_⟩
            · have hh : Held w w6 (.slice A5 g2.nodes.length c5) (.slice A6 g2.ties.length c6) g2 := .inl ⟨B5, xs5, how6⟩
              exact (hh.set hq6 0 _).set s0 1 _
            · have h1 := HT6.out.m.of_block (w' := (w6.setCell ⟨w.heap.size, 0, none⟩ (.slice A5 g2.nodes.length c5)).setCell ⟨w.heap.size, 1, none⟩ (.slice A6 g2.ties.length c6)) (by
                rw [Below.heap_setCell _ _ _ _ (by show bm ≠ w.heap.size; omega), Below.heap_setCell _ _ _ _ (by show bm ≠ w.heap.size; omega)])
              exact h1
          have a0 := block_free hq6 0
          have a1 := block_free hq6 1
          have a2 := block_cell hq6 0
          have a3 := block_cell hq6 1
          have a4 := block_cell hz 0
          have a5 := block_cell hz 1
          clear hz hba how how6 HT5 HT6 HTD hq6 s0 s1 hb5 HDO
          go_wp2_with fail
          go_roundw
          case rel => exact ⟨k + 1, _, _, g2, S1, by omega, by go_num, HE.out.mono (by omega), HG2.out, HSD⟩
          case measure => simp [intOf]; omega
      · have hw5 : (what == 5) = false := by rw [beq_eq_false_iff_ne]; omega
        have hw6 : (what == 6) = false := by rw [beq_eq_false_iff_ne]; omega
        have hd5 : decide (what = 5) = false := decide_eq_false (by omega)
        have hd6 : decide (what = 6) = false := decide_eq_false (by omega)
        have HTB2 : Hid (∀ i, touchB gk ⟨what, node, prop, tie⟩ i = (decide (node.id = i) || (decide (what = 2) && gk.ties.any (tieT node.id i)))) := fun i => by unfold touchB; rw [if_neg hw56]
        obtain ⟨wp, hp, hIp, hsp⟩ := HIa.out.put hsz (by omega) HOR.out.i
        have HIP := Lib.hid hIp
        have hbkp := hsp _ _ _ _ HBK.out
        have v0 := block_cell hbkp 0
        have v1 := block_cell hbkp 1
        have HBP := Lib.hid hbkp
        clear hw56 hsp hIp hbkp HIa HBK
        by_cases hw2 : what = 2
        · subst hw2
          have x0 := block_cell HIP.out.q 0
          have x1 := block_cell HIP.out.q 1
          have HI0 : Hid (TInv w wp bm (300 * k + 1 + 2 * 0) (.slice An gk.nodes.length cn) (.slice At gk.ties.length ct) gk (fun t => (S t || decide (node.id = t)) || (gk.ties.take 0).any (tieT node.id t))) := by
            have e : (fun t => (S t || decide (node.id = t)) || (gk.ties.take 0).any (tieT node.id t)) = fun t => S t || decide (node.id = t) := by funext t; simp
            unfold Hid; rw [e]; exact HIP.out
          have HIDN := Lib.hid HOR.out.i
          have htl := HTL.out
          clear HIP hd5 hd6
          go_wp2_with fail
          clear hp z0 z1 z9 z10 v0 v1 x0 x1
          go_loopw [56] (fun i w4 => ∃ j : Nat, j ≤ gk.ties.length ∧ i = .int .i64 j ∧ Hid (TInv w w4 bm (300 * k + 1 + 2 * j) (.slice An gk.nodes.length cn) (.slice At gk.ties.length ct) gk (fun t => (S t || decide (node.id = t)) || (gk.ties.take j).any (tieT node.id t))) ∧ Hid (w4.heap[bo]? = some (.cells #[.int .i64 2, .int .i64 node.id, .string node.kind, .slice Ar node.props.length cr, .string prop.name, .int .i64 prop.v.ty, .int .i64 prop.v.n, .string prop.v.s, .string tie.bond, .int .i64 tie.src, .int .i64 tie.dst] 47 (0, 0)))) (fun i _ => gk.ties.length - (intOf i).toNat)
          case atStart => exact ⟨0, Nat.zero_le _, rfl, HI0, HBP⟩
          case round =>
            clear HI0 HBP
            obtain ⟨j, hj, rfl, HT, HB⟩ := hrel
            have hgr := HT.out.h.r HT.out.b
            have x0 := block_cell HT.out.q 0
            have x1 := block_cell HT.out.q 1
            have z1 := block_cell HB.out 1
            by_cases hjl : j < gk.ties.length
            · obtain ⟨t, ht⟩ : ∃ d, gk.ties[j]? = some d := ⟨_, List.getElem?_eq_getElem hjl⟩
              have hjl' : (j : Int) < (gk.ties.length : Int) := by omega
              obtain ⟨gt, ot, hAt, hokt, p0, p1, p2⟩ := tie_at hgr.2 ht
              subst hAt
              have HST : Hid (∀ i, (gk.ties.take (j + 1)).any (tieT node.id i) = ((gk.ties.take j).any (tieT node.id i) || tieT node.id i t)) := fun i => by rw [List.take_add_one, ht, List.any_append]; simp
              have HOK := Lib.hid hokt
              have hbt := heap_alloc_new wr (.cells #[.string t.bond, .int .i64 t.src, .int .i64 t.dst] 36)
              have ha2 : Below wr.heap.size wr (wr.alloc (.cells #[.string t.bond, .int .i64 t.src, .int .i64 t.dst] 36)) := (Below.refl _ _).alloc (Nat.le_refl _) _
              clear ht hgr hokt
              go_upto_region 17 with fail
              generalize wr.alloc (.cells #[.string t.bond, .int .i64 t.src, .int .i64 t.dst] 36) = wb at *
              obtain ⟨bt, hbte⟩ : ∃ bt, bt = wr.heap.size := ⟨_, rfl⟩
              rw [← hbte] at hbt ⊢
              have HT2 := Lib.hid (HT.out.below ha2)
              have hb2 := (ha2.block _ (Array.getElem?_eq_some_iff.1 HB.out).1).trans HB.out
              have HB2 := Lib.hid hb2
              have HBT := Lib.hid hbt
              have y1 := block_cell hb2 1
              have t1 := block_cell hbt 1
              have t2 := block_cell hbt 2
              clear p0 p1 p2 x0 x1 z1 HT HB ha2 hbte hb2 hbt
              by_cases hs : t.src = node.id
              · have hsb : (t.src == node.id) = true := by rw [beq_iff_eq]; exact hs
                have HTT : Hid (∀ i, tieT node.id i t = (decide (t.src = i) || decide (t.dst = i))) := fun i => by unfold tieT; rw [decide_eq_true hs]; simp
                clear hs
                have hId : TInv w wb.drew bm (300 * k + 1 + 2 * j) (.slice An gk.nodes.length cn) (.slice (some ⟨gt, ot, none⟩) gk.ties.length ct) gk (fun i => (S i || decide (node.id = i)) || (gk.ties.take j).any (tieT node.id i)) := HT2.out.below (Below.refl wb.heap.size wb).drew
                have hbd : wb.drew.heap[bt]? = _ := HBT.out
                have hbo : wb.drew.heap[bo]? = _ := HB2.out
                obtain ⟨wp, hp, hIp, hsp⟩ := hId.put hsz (by omega) HOK.out.2.1
                have hbp := hsp _ _ _ _ hbd
                obtain ⟨wp2, hp2, hIp2, hsp2⟩ := hIp.put hsz (by omega) HOK.out.2.2
                have HB3 := Lib.hid (hsp2 _ _ _ _ (hsp _ _ _ _ hbo))
                have HN : Hid ((fun i => (S i || decide (node.id = i)) || (gk.ties.take (j + 1)).any (tieT node.id i)) = fun i => (((S i || decide (node.id = i)) || (gk.ties.take j).any (tieT node.id i)) || decide (t.src = i)) || decide (t.dst = i)) := by
                  unfold Hid; funext i; rw [HST.out, HTT.out]; simp only [Bool.or_assoc]
                have HI2 := Lib.hid hIp2
                have d1 := block_cell hbd 1
                have d2 := block_cell hbd 2
                have e1 := block_cell hbp 1
                have e2 := block_cell hbp 2
                clear hId hbd hbo hIp hIp2 hsp hsp2 hbp HT2 HB2 HBT HST HTT
                go_wp2_with fail
                go_region
                go_wp2_with fail
                go_roundw
                case rel => exact ⟨j + 1, by omega, by go_num, by rw [HN.out]; exact HI2.out.mono (by omega), HB3⟩
                case measure => simp [intOf]; omega
              · have hsb : (t.src == node.id) = false := by rw [beq_eq_false_iff_ne]; exact hs
                by_cases hd' : t.dst = node.id
                · have hdb : (t.dst == node.id) = true := by rw [beq_iff_eq]; exact hd'
                  have HTT : Hid (∀ i, tieT node.id i t = (decide (t.src = i) || decide (t.dst = i))) := fun i => by unfold tieT; rw [decide_eq_true hd']; simp
                  clear hs hd'
                  have hId : TInv w wb.drew bm (300 * k + 1 + 2 * j) (.slice An gk.nodes.length cn) (.slice (some ⟨gt, ot, none⟩) gk.ties.length ct) gk (fun i => (S i || decide (node.id = i)) || (gk.ties.take j).any (tieT node.id i)) := HT2.out.below (Below.refl wb.heap.size wb).drew
                  have hbd : wb.drew.heap[bt]? = _ := HBT.out
                  have hbo : wb.drew.heap[bo]? = _ := HB2.out
                  obtain ⟨wp, hp, hIp, hsp⟩ := hId.put hsz (by omega) HOK.out.2.1
                  have hbp := hsp _ _ _ _ hbd
                  obtain ⟨wp2, hp2, hIp2, hsp2⟩ := hIp.put hsz (by omega) HOK.out.2.2
                  have HB3 := Lib.hid (hsp2 _ _ _ _ (hsp _ _ _ _ hbo))
                  have HN : Hid ((fun i => (S i || decide (node.id = i)) || (gk.ties.take (j + 1)).any (tieT node.id i)) = fun i => (((S i || decide (node.id = i)) || (gk.ties.take j).any (tieT node.id i)) || decide (t.src = i)) || decide (t.dst = i)) := by
                    unfold Hid; funext i; rw [HST.out, HTT.out]; simp only [Bool.or_assoc]
                  have HI2 := Lib.hid hIp2
                  have d1 := block_cell hbd 1
                  have d2 := block_cell hbd 2
                  have e1 := block_cell hbp 1
                  have e2 := block_cell hbp 2
                  clear hId hbd hbo hIp hIp2 hsp hsp2 hbp HT2 HB2 HBT HST HTT
                  go_wp2_with fail
                  go_region
                  go_wp2_with fail
                  go_roundw
                  case rel => exact ⟨j + 1, by omega, by go_num, by rw [HN.out]; exact HI2.out.mono (by omega), HB3⟩
                  case measure => simp [intOf]; omega
                · have hdb : (t.dst == node.id) = false := by rw [beq_eq_false_iff_ne]; exact hd'
                  have HTT : Hid (∀ i, tieT node.id i t = false) := fun i => by unfold tieT; rw [decide_eq_false hs, decide_eq_false hd']; rfl
                  have HN : Hid ((fun i => (S i || decide (node.id = i)) || (gk.ties.take (j + 1)).any (tieT node.id i)) = fun i => (S i || decide (node.id = i)) || (gk.ties.take j).any (tieT node.id i)) := by
                    unfold Hid; funext i; rw [HST.out, HTT.out, Bool.or_false]
                  clear hs hd' HST HTT
                  go_wp2_with fail
                  go_roundw
                  case rel => exact ⟨j + 1, by omega, by go_num, by rw [HN.out]; exact HT2.out.mono (by omega), HB2⟩
                  case measure => simp [intOf]; omega
            · obtain rfl : j = gk.ties.length := by omega
              have HS1 : Hid (∀ i, touchS g l i = ((fun t => (S t || decide (node.id = t)) || (gk.ties.take gk.ties.length).any (tieT node.id t)) i || touchS g2 (l.drop (k + 1)) i)) := fun i => by
                rw [HS.out i, HTB.out i, HTB2.out i, List.take_length]
                simp [Bool.or_assoc]
              obtain ⟨S1, hS1⟩ : ∃ S1 : Int → Bool, (fun t => (S t || decide (node.id = t)) || (gk.ties.take gk.ties.length).any (tieT node.id t)) = S1 := ⟨_, rfl⟩
              rw [hS1] at HS1 HT
              clear HS HTB HTB2 hS1 hgr x0 x1 z1
              go_upto_region 20 with fail
              -- the op is done: wr: the world; HT: the state's Hid there (TInv w wr bm N1 vn vt gk S1); HB.out: that the op's box stands there; 300 * k + 1 + 2 * gk.ties.length: the count; HS1: S1 is what is wanted
              have hbo := HB.out
              have y0 := block_cell hbo 0
              have y1 := block_cell hbo 1
              have y2 := block_cell hbo 2
              have y3 := block_cell hbo 3
              have y4 := block_cell hbo 4
              have y5 := block_cell hbo 5
              have y6 := block_cell hbo 6
              have y7 := block_cell hbo 7
              have y8 := block_cell hbo 8
              have y9 := block_cell hbo 9
              have y10 := block_cell hbo 10
              have x0 := block_cell (HT).out.q 0
              have x1 := block_cell (HT).out.q 1
              have hx := HDO.out wr (HT).out.b ((HT).out.h.r (HT).out.b)
              have HTD := HT
              have HSD := HS1
              clear hbo
              go_wp2_with fail
              refine hx.mono ?_
              clear hx y0 y1 y2 y3 y4 y5 y6 y7 y8 y9 y10 x0 x1
              rintro e w5 ⟨un, ut, B5, xs5, rfl, how, hb5⟩
              obtain ⟨A5, c5, rfl, _, _⟩ := how.n.form
              obtain ⟨A6, c6, rfl, _, _⟩ := how.t.form
              have HT5 := Lib.hid (HTD.out.below hb5)
              go_upto_region 21 with fail
              have hz := heap_alloc_new w5 (.cells #[.slice A5 g2.nodes.length c5, .slice A6 g2.ties.length c6] 29)
              have hba : Below w5.heap.size w5 (w5.alloc (.cells #[.slice A5 g2.nodes.length c5, .slice A6 g2.ties.length c6] 29)) := (Below.refl _ _).alloc (Nat.le_refl _) _
              have how6 := how.below hba
              have HT6 := Lib.hid (HT5.out.below hba)
              generalize w5.alloc (.cells #[.slice A5 g2.nodes.length c5, .slice A6 g2.ties.length c6] 29) = w6 at *
              have hq6 := HT6.out.q
              have s0 := setCell_block hq6 0 (.slice A5 g2.nodes.length c5)
              have s1 := setCell_block s0 1 (.slice A6 g2.ties.length c6)
              have HE : Hid (TInv w ((w6.setCell ⟨w.heap.size, 0, none⟩ (.slice A5 g2.nodes.length c5)).setCell ⟨w.heap.size, 1, none⟩ (.slice A6 g2.ties.length c6)) bm (300 * k + 1 + 2 * gk.ties.length) (.slice A5 g2.nodes.length c5) (.slice A6 g2.ties.length c6) g2 S1) := by
                refine ⟨(HT6.out.b.setCell (p := ⟨w.heap.size, 0, none⟩) (Nat.le_refl _) _).setCell (p := ⟨w.heap.size, 1, none⟩) (Nat.le_refl _) _, s1, ?_, ?_⟩
                · have hh : Held w w6 (.slice A5 g2.nodes.length c5) (.slice A6 g2.ties.length c6) g2 := .inl ⟨B5, xs5, how6⟩
                  exact (hh.set hq6 0 _).set s0 1 _
                · have h1 := HT6.out.m.of_block (w' := (w6.setCell ⟨w.heap.size, 0, none⟩ (.slice A5 g2.nodes.length c5)).setCell ⟨w.heap.size, 1, none⟩ (.slice A6 g2.ties.length c6)) (by
                    rw [Below.heap_setCell _ _ _ _ (by show bm ≠ w.heap.size; omega), Below.heap_setCell _ _ _ _ (by show bm ≠ w.heap.size; omega)])
                  exact h1
              have a0 := block_free hq6 0
              have a1 := block_free hq6 1
              have a2 := block_cell hq6 0
              have a3 := block_cell hq6 1
              have a4 := block_cell hz 0
              have a5 := block_cell hz 1
              clear hz hba how how6 HT5 HT6 HTD hq6 s0 s1 hb5 HDO
              go_wp2_with fail
              go_roundw
              case rel => exact ⟨k + 1, _, _, g2, S1, by omega, by go_num, HE.out.mono (by omega), HG2.out, HSD⟩
              case measure => simp [intOf]; omega
        · have hw2b : (what == 2) = false := by rw [beq_eq_false_iff_ne]; exact hw2
          have HS1 : Hid (∀ i, touchS g l i = ((fun t => S t || decide (node.id = t)) i || touchS g2 (l.drop (k + 1)) i)) := fun i => by
            rw [HS.out i, HTB.out i, HTB2.out i, decide_eq_false hw2]
            simp only [Bool.false_and, Bool.or_false, Bool.or_assoc]
          obtain ⟨S1, hS1⟩ : ∃ S1 : Int → Bool, (fun t => S t || decide (node.id = t)) = S1 := ⟨_, rfl⟩
          rw [hS1] at HS1 HIP
          clear HS HTB HTB2 hS1 hw2 hd5 hd6
          go_upto_region 20 with fail
          clear hp z0 z1 z9 z10 v0 v1
          -- the op is done: wp: the world; HIP: the state's Hid there (TInv w wp bm N1 vn vt gk S1); HBP.out: that the op's box stands there; 300 * k + 1: the count; HS1: S1 is what is wanted
          have hbo := HBP.out
          have y0 := block_cell hbo 0
          have y1 := block_cell hbo 1
          have y2 := block_cell hbo 2
          have y3 := block_cell hbo 3
          have y4 := block_cell hbo 4
          have y5 := block_cell hbo 5
          have y6 := block_cell hbo 6
          have y7 := block_cell hbo 7
          have y8 := block_cell hbo 8
          have y9 := block_cell hbo 9
          have y10 := block_cell hbo 10
          have x0 := block_cell (HIP).out.q 0
          have x1 := block_cell (HIP).out.q 1
          have hx := HDO.out wp (HIP).out.b ((HIP).out.h.r (HIP).out.b)
          have HTD := HIP
          have HSD := HS1
          clear hbo
          go_wp2_with fail
          refine hx.mono ?_
          clear hx y0 y1 y2 y3 y4 y5 y6 y7 y8 y9 y10 x0 x1
          rintro e w5 ⟨un, ut, B5, xs5, rfl, how, hb5⟩
          obtain ⟨A5, c5, rfl, _, _⟩ := how.n.form
          obtain ⟨A6, c6, rfl, _, _⟩ := how.t.form
          have HT5 := Lib.hid (HTD.out.below hb5)
          go_upto_region 21 with fail
          have hz := heap_alloc_new w5 (.cells #[.slice A5 g2.nodes.length c5, .slice A6 g2.ties.length c6] 29)
          have hba : Below w5.heap.size w5 (w5.alloc (.cells #[.slice A5 g2.nodes.length c5, .slice A6 g2.ties.length c6] 29)) := (Below.refl _ _).alloc (Nat.le_refl _) _
          have how6 := how.below hba
          have HT6 := Lib.hid (HT5.out.below hba)
          generalize w5.alloc (.cells #[.slice A5 g2.nodes.length c5, .slice A6 g2.ties.length c6] 29) = w6 at *
          have hq6 := HT6.out.q
          have s0 := setCell_block hq6 0 (.slice A5 g2.nodes.length c5)
          have s1 := setCell_block s0 1 (.slice A6 g2.ties.length c6)
          have HE : Hid (TInv w ((w6.setCell ⟨w.heap.size, 0, none⟩ (.slice A5 g2.nodes.length c5)).setCell ⟨w.heap.size, 1, none⟩ (.slice A6 g2.ties.length c6)) bm (300 * k + 1) (.slice A5 g2.nodes.length c5) (.slice A6 g2.ties.length c6) g2 S1) := by
            refine ⟨(HT6.out.b.setCell (p := ⟨w.heap.size, 0, none⟩) (Nat.le_refl _) _).setCell (p := ⟨w.heap.size, 1, none⟩) (Nat.le_refl _) _, s1, ?_, ?_⟩
            · have hh : Held w w6 (.slice A5 g2.nodes.length c5) (.slice A6 g2.ties.length c6) g2 := .inl ⟨B5, xs5, how6⟩
              exact (hh.set hq6 0 _).set s0 1 _
            · have h1 := HT6.out.m.of_block (w' := (w6.setCell ⟨w.heap.size, 0, none⟩ (.slice A5 g2.nodes.length c5)).setCell ⟨w.heap.size, 1, none⟩ (.slice A6 g2.ties.length c6)) (by
                rw [Below.heap_setCell _ _ _ _ (by show bm ≠ w.heap.size; omega), Below.heap_setCell _ _ _ _ (by show bm ≠ w.heap.size; omega)])
              exact h1
          have a0 := block_free hq6 0
          have a1 := block_free hq6 1
          have a2 := block_cell hq6 0
          have a3 := block_cell hq6 1
          have a4 := block_cell hz 0
          have a5 := block_cell hz 1
          clear hz hba how how6 HT5 HT6 HTD hq6 s0 s1 hb5 HDO
          go_wp2_with fail
          go_roundw
          case rel => exact ⟨k + 1, _, _, g2, S1, by omega, by go_num, HE.out.mono (by omega), HG2.out, HSD⟩
          case measure => simp [intOf]; omega
    · obtain rfl : k = l.length := by omega
      have hx1 := keysMap_any (some bm) wr
      have hx2 := sortedKeys_any S bm _ wr hI.m (by omega)
      have HS2 : Hid (∀ i, touchS g l i = S i) := fun i => by rw [HS.out i, List.drop_length]; simp [touchS]
      have hbw := hI.b
      clear hI hA hgr HI HS
      go_wp2_with fail
      refine hx1.mono ?_
      clear hx1
      rintro e w4 ⟨rfl, rfl⟩
      go_wp2_with fail
      refine hx2.mono ?_
      clear hx2
      rintro e w5 ⟨v, L, rfl, hL, hasc, hb5⟩
      obtain ⟨Av, cv, rfl, _, _⟩ := hL.form
      have HR := Lib.hid (And.intro hL hasc)
      clear hL hasc
      go_wp2_with fail
      go_ret2
      exact ⟨_, L, by rw [HEV.out.1]; rfl, HR.out.1, fun _ => ⟨HR.out.2.1, HR.out.2.2.1, fun x hx => by rw [HS2.out]; exact HR.out.2.2.2 x hx⟩, fun h => absurd HEV.out.2 h, hbw.trans (hb5.mono hbw.size)⟩
end Go.Proofs.YtkegnmclhkpbkaaGreat

/- Contract: index.OwnSchema. -/
namespace Go.Proofs.YtkegnmclhkpbkaaGreat
open Go Go.RowKit



theorem clone_bnds_info : (Tryz.prog.info? 109).map (fun i => (i.zero, i.size, i.bytes)) = some (some (.agg #[.string .empty, .string .empty, .string .empty, .int .i64 0, .int .i64 0]), 5, 64) := by kernel_rfl
theorem clone_strs_info : (Tryz.prog.info? 9).map (fun i => (i.zero, i.size, i.bytes)) = some (some (.string .empty), 1, 16) := by kernel_rfl
theorem clone_flds_info : (Tryz.prog.info? 135).map (fun i => (i.zero, i.size, i.bytes)) = some (some (.agg #[.string .empty, .int .i64 0, .bool false, .bool false]), 4, 32) := by kernel_rfl
theorem clonec_knds_info : (Tryz.prog.info? 177).map (fun i => (i.zero, i.size, i.bytes)) = some (some (.agg #[.string .empty, .slice none 0 0, .slice none 0 0]), 3, 64) := by kernel_rfl
set_option maxHeartbeats 2000000 in
theorem clonec_knds {w : World} {A : Option Addr} {n c : Nat} {xs : List Value} (hlen : xs.length = n * 3) (h1 : ∀ u ∈ xs, u.oneCell' = true) (hx : 0 < n → ∃ b o, A = some ⟨b, o, none⟩ ∧ ∀ j u, xs[j]? = some u → w.cell? ⟨b, o + j, none⟩ = some u) (hl : n ≤ 1048576) :
    Calls Tryz.prog 131 #[.slice A n c] w fun e w' => ∃ u, e = .returned u ∧ Own w' w.heap.size 177 3 u n xs ∧ Below w.heap.size w w' := by
  obtain ⟨i0, ei, ez, ez1, ez2⟩ := info_parts clonec_knds_info
  have q22 : ∀ (w : World) (a : Option Addr) (n c n' c' : Nat), (binOp .eql 22 (.slice a n c) (.slice none n' c')).run Tryz.prog w = .ok (.bool a.isNone) w := fun w a n c n' c' => Lib.run_eql_slice_nil w _ _ a n c n' c' Tryz.underlying22
  cases A with
  | none =>
    have h0 : n = 0 := by
      rcases Nat.eq_zero_or_pos n with h | h
      · exact h
      · obtain ⟨_, _, hA, _⟩ := hx h; cases hA
    subst h0
    have hx0 : xs = [] := List.eq_nil_of_length_eq_zero (by rw [hlen, Nat.zero_mul])
    subst hx0
    clear hx hlen h1
    go_enter Tryz.func131, Tryz.ntmps131
    go_wp2_with fail
    go_ret
    exact ⟨_, rfl, Own.nil _ _ _ _, Below.refl _ _⟩
  | some a =>
    have hX : Hid (0 < n → ∃ b o, (some a : Option Addr) = some ⟨b, o, none⟩ ∧ ∀ j u, xs[j]? = some u → w.cell? ⟨b, o + j, none⟩ = some u) := hx
    have hL := Lib.hid hlen
    have h1H := Lib.hid h1
    clear hx hlen h1
    go_enter Tryz.func131, Tryz.ntmps131
    go_wp2_with (at_builtin; refine wpList_append_q _ rfl (.tmp 5) (.tmp 6) 22 rfl w.heap.size 177 i0 (.agg #[.string .empty, .slice none 0 0, .slice none 0 0]) 3 64 Tryz.underlying22 ei ez ez1 ez2 rfl (by decide) (.slice (some ⟨w.heap.size, 0, none⟩) 0 0) 0 [] rfl Own.made (some a) n c xs rfl hL.out (fun hp => by
        obtain ⟨b, o, hA, hy⟩ := hX.out hp
        exact ⟨_, hA, fun j u hj => by rw [addr_add]; exact cell_below ((Below.refl _ _).alloc (Nat.le_refl _) _) (hy j u hj)⟩) h1H.out (by unfold maxLen; omega) (by omega) (by simp) ?_; intro v7 w7 hown7 hg7 hat7)
    have hb7 : Below w.heap.size w w7 := ((Below.refl _ _).alloc (Nat.le_refl _) _).grown hg7 (by simp) (fun k hk => Nat.le_of_eq (by simpa [Value.ownBlock] using hk))
    simp only [Nat.zero_add, List.nil_append] at hown7
    clear hg7 hat7
    go_ret
    exact ⟨_, rfl, hown7, hb7⟩
end Go.Proofs.YtkegnmclhkpbkaaGreat

/- Contracts: change.field, change.add. -/
namespace Go.Proofs.YtkegnmclhkpbkaaGreat
open Go Go.RowKit


def cpos (fs : List Fld) (nm : ByteArray) : Nat := lowI (fldC nm) fs
def chas (fs : List Fld) (nm : ByteArray) : Bool := eqAt (fldC nm) fs (cpos fs nm)
theorem OwnKnds.get {w : World} {B : Nat} : ∀ {l : List Knd} {xs : List Value} {i : Nat} {d : Knd}, OwnKnds w B l xs → l[i]? = some d →
    ∃ u x, xs[i * 3]? = some (.string d.name) ∧ xs[i * 3 + 1]? = some u ∧ xs[i * 3 + 2]? = some x ∧ Sm d.name ∧ (∀ p ∈ d.ofs, Sm p) ∧ Own w B 9 1 u d.ofs.length (d.ofs.map Value.string) ∧ (∀ p ∈ d.fields, p.ok) ∧ Own w B 135 4 x d.fields.length (d.fields.flatMap Fld.enc)
  | [], xs, i, d, h, hi => by simp at hi
  | e :: l, xs, 0, d, h, hi => by
    simp at hi
    subst hi
    obtain ⟨u, x, ys, rfl, a1, a2, a3, a4, a5, _⟩ := h
    exact ⟨u, x, rfl, rfl, rfl, a1, a2, a3, a4, a5⟩
  | e :: l, xs, i + 1, d, h, hi => by
    obtain ⟨u, x, ys, rfl, _, _, _, _, _, a6⟩ := h
    obtain ⟨u', x', b1, b2, b3, hr⟩ := OwnKnds.get a6 (by simpa using hi)
    have e1 : (i + 1) * 3 = i * 3 + 1 + 1 + 1 := by omega
    have e2 : (i + 1) * 3 + 1 = i * 3 + 1 + 1 + 1 + 1 := by omega
    have e3 : (i + 1) * 3 + 2 = i * 3 + 2 + 1 + 1 + 1 := by omega
    exact ⟨u', x', by rw [e1]; exact b1, by rw [e2]; exact b2, by rw [e3]; exact b3, hr⟩
/-- Another row of fields in the place of one: what is read of the other rows lies where it lay. -/
theorem OwnKnds.put {w w' : World} {B : Nat} {fs : List Fld} {v : Value} (h1 : Same 9 w w') (hk : ∀ p ∈ fs, p.ok) (ho : Own w' B 135 4 v fs.length (fs.flatMap Fld.enc)) :
    ∀ {l : List Knd} {xs : List Value} {i : Nat} {d : Knd}, OwnKnds w B l xs → l[i]? = some d → (∀ j e x n ys, j ≠ i → l[j]? = some e → xs[j * 3 + 2]? = some x → Own w B 135 4 x n ys → Own w' B 135 4 x n ys) →
    OwnKnds w' B (l.set i ⟨d.name, d.ofs, fs⟩) (xs.set (i * 3 + 2) v)
  | [], xs, i, d, h, hi, _ => by simp at hi
  | e :: l, xs, 0, d, h, hi, hoth => by
    simp at hi
    subst hi
    obtain ⟨u, x, ys, rfl, a1, a2, a3, a4, a5, a6⟩ := h
    refine ⟨u, v, ys, rfl, a1, a2, a3.same h1, hk, ho, ?_⟩
    have : ∀ {l : List Knd} {ys : List Value}, OwnKnds w B l ys → (∀ j e x n zs, l[j]? = some e → ys[j * 3 + 2]? = some x → Own w B 135 4 x n zs → Own w' B 135 4 x n zs) → OwnKnds w' B l ys := by
      intro l
      induction l with
      | nil => intro ys h _; exact h
      | cons e l ih =>
        intro ys h hh
        obtain ⟨u, x, zs, rfl, b1, b2, b3, b4, b5, b6⟩ := h
        exact ⟨u, x, zs, rfl, b1, b2, b3.same h1, b4, hh 0 e x _ _ rfl rfl b5, ih b6 (fun j e' x' n zs' hj hx => hh (j + 1) e' x' n zs' (by simpa using hj) (by rw [show (j + 1) * 3 + 2 = j * 3 + 2 + 1 + 1 + 1 by omega]; exact hx))⟩
    exact this a6 (fun j e' x' n zs' hj hx => hoth (j + 1) e' x' n zs' (by omega) (by simpa using hj) (by rw [show (j + 1) * 3 + 2 = j * 3 + 2 + 1 + 1 + 1 by omega]; exact hx))
  | e :: l, xs, i + 1, d, h, hi, hoth => by
    obtain ⟨u, x, ys, rfl, a1, a2, a3, a4, a5, a6⟩ := h
    have e3 : (i + 1) * 3 + 2 = i * 3 + 2 + 1 + 1 + 1 := by omega
    rw [e3]
    exact ⟨u, x, ys.set (i * 3 + 2) v, rfl, a1, a2, a3.same h1, a4, hoth 0 e x _ _ (by omega) rfl rfl a5, OwnKnds.put h1 hk ho a6 (by simpa using hi) (fun j e' x' n zs' hj hx hxx => hoth (j + 1) e' x' n zs' (by omega) (by simpa using hx) (by rw [show (j + 1) * 3 + 2 = j * 3 + 2 + 1 + 1 + 1 by omega]; exact hxx))⟩
end Go.Proofs.YtkegnmclhkpbkaaGreat

/- Plain: the fields of one kind of an owned schema are others. -/
namespace Go.Proofs.YtkegnmclhkpbkaaGreat
open Go Go.RowKit

def setF (s : Scm) (i : Nat) (d : Knd) (fs : List Fld) : Scm := ⟨s.kinds.set i ⟨d.name, d.ofs, fs⟩, s.bonds⟩
theorem field_put {Wx W5 : World} {B gb o ck i : Nat} {vb x u5 : Value} {s : Scm} {d : Knd} {xs : List Value} {fs : List Fld}
    (hS : OwnS Wx B (.slice (some ⟨gb, o, none⟩) s.kinds.length ck) vb s xs) (hd : s.kinds[i]? = some d) (hx : xs[i * 3 + 2]? = some x)
    (ho : Own W5 B 135 4 u5 fs.length (fs.flatMap Fld.enc)) (hg : Wx.grownBy W5 x.ownBlock) (hat : u5.ownBlock = x.ownBlock ∨ ∃ k, u5.ownBlock = some k ∧ Wx.heap.size ≤ k) (hok : ∀ p ∈ fs, p.ok) :
    OwnS (W5.setCell ⟨gb, o + i * 3 + 2, none⟩ u5) B (.slice (some ⟨gb, o, none⟩) s.kinds.length ck) vb (setF s i d fs) (xs.set (i * 3 + 2) u5) ∧
      (∀ T, 135 ≠ T → 177 ≠ T → Same T Wx (W5.setCell ⟨gb, o + i * 3 + 2, none⟩ u5)) ∧ W5.frozen? ⟨gb, o + i * 3 + 2, none⟩ = false ∧ W5.cell? ⟨gb, o + i * 3 + 2, none⟩ = some x ∧ B ≤ gb := by
  obtain ⟨_, x', _, _, k2, _, _, _, _, ox⟩ := hS.o.get hd
  obtain rfl := Option.some.inj (hx.symm.trans k2)
  have hil := (List.getElem?_eq_some_iff.1 hd).1
  have hSk : ∀ T, 135 ≠ T → Same T Wx W5 := fun T hT => Same.grown ox hT hg
  have n5 := hS.n.same (hSk _ (by decide))
  have hset : ∀ T, 177 ≠ T → Same T W5 (W5.setCell ⟨gb, o + i * 3 + 2, none⟩ u5) := fun T hT => Same.cellOf n5 hT _ _
  have hdist : ∀ (j : Nat) (y : Value) (b : Nat), j ≠ i → xs[j * 3 + 2]? = some y → y.ownBlock = some b → x.ownBlock ≠ some b := fun j y b hji hy hb hxb => by
    rcases Nat.lt_or_ge j i with h | h
    · exact hS.d j i y x b h hy hx hb hxb
    · exact hS.d i j x y b (by omega) hx hy hxb hb
  refine ⟨⟨?_, ?_, (hS.b.same (hSk _ (by decide))).same (hset _ (by decide)), hS.k, hS.d.put fun j y b hji hy hb => ?_⟩, fun T h1 h2 => (hSk T h1).trans (hset T h2), n5.frozen rfl _, n5.cell (j := i * 3 + 2) rfl hx, (n5.lt gb rfl).1⟩
  · have := n5.store (i * 3 + 2) (by omega) u5
    show Own _ B 177 3 _ (s.kinds.set i ⟨d.name, d.ofs, fs⟩).length _
    rw [List.length_set]
    exact this
  · refine (OwnKnds.put (hSk _ (by decide)) hok ho hS.o hd (fun j e y n ys hji _ hy hoy => ?_)).same (hset _ (by decide)) (hset _ (by decide))
    refine hoy.grown hg ?_
    cases hyb : y.ownBlock with
    | none => exact .inl rfl
    | some b => exact .inr (fun e => hdist j y b hji hy hyb e.symm)
  · rcases hat with h | ⟨k, h, hk⟩
    · rw [h]; exact hdist j y b hji hy hb
    · rw [h]
      intro e
      injection e with e
      subst e
      have := hS.o.flt j y _ hy hb
      omega
end Go.Proofs.YtkegnmclhkpbkaaGreat
