/- Parts: GdP, DlAll, GdA, GSame. -/
import Derived.Test.YtkaolglpmajeaaaGreatMg11
import Derived.Test.YtkaolglpmajeaaaGreatMg19
/- Plain: ops that are asked ahead, and done: what the guard tells. No condition. -/
namespace Go.Proofs.YtkaolglpmajeaaaGreat
open Go

/-- What delta.All answers. -/
def dallE (g : Grf) (l : List Opr) : Int := if 40 < l.length then 4 else if grfE g = 0 then allE g l else grfE g
def dallG (g : Grf) (l : List Opr) : Grf := if dallE g l = 0 then allG g l else ⟨[], []⟩
/-- Which op is wrong. -/
def allI (g : Grf) : List Opr → Nat
  | [] => 0
  | o :: r => if opE g o = 0 then allI (opG g o) r + 1 else 0
def dallI (g : Grf) (l : List Opr) : Nat := if 40 < l.length then 0 else if grfE g = 0 then (if allE g l = 0 then 0 else allI g l) else 0
/-- What guard.Check answers; what guard.May does. -/
def gckE (s : Scm) (g : Grf) (l : List Opr) : Int := if readySG s g = 0 then (if (ofF s g).length = 0 then dallE g l else 6) else readySG s g
def gckR (s : Scm) (g : Grf) (l : List Opr) : List Flt := if gckE s g l = 0 then ofF s (dallG g l) else []
def mayR (s : Scm) (g : Grf) (l : List Opr) : Bool := decide (gckE s g l = 0) && decide ((gckR s g l).length = 0)
theorem dall_zero {g : Grf} {l : List Opr} (h : dallE g l = 0) : l.length ≤ 40 ∧ grfE g = 0 ∧ allE g l = 0 ∧ dallG g l = allG g l ∧ grfE (dallG g l) = 0 := by
  have h0 := h
  unfold dallE at h
  split at h
  · cases h
  · split at h
    · rename_i h1 h2
      have e : dallG g l = allG g l := by unfold dallG; rw [if_pos h0]
      exact ⟨by omega, h2, h, e, by rw [e]; exact all_right h2 h⟩
    · rename_i h2; exact absurd h h2
theorem gck_zero {s : Scm} {g : Grf} {l : List Opr} (h : gckE s g l = 0) : readySG s g = 0 ∧ (ofF s g).length = 0 ∧ dallE g l = 0 := by
  unfold gckE at h
  split at h
  · rename_i h1
    split at h
    · rename_i h2; exact ⟨h1, h2, h⟩
    · cases h
  · rename_i h1; exact absurd h h1
theorem guard_same {s : Scm} {g : Grf} {l : List Opr} (h : gckE s g l = 0) : dallE g l = 0 ∧ readySG s (dallG g l) = 0 ∧ confR s (dallG g l) = mayR s g l := by
  obtain ⟨h1, _, h3⟩ := gck_zero h
  obtain ⟨h4, _⟩ := readySG_zero h1
  have h5 : readySG s (dallG g l) = 0 := by unfold readySG; rw [if_pos h4]; exact (dall_zero h3).2.2.2.2
  refine ⟨h3, h5, ?_⟩
  unfold confR mayR faultsR gckR
  simp [h5, h]
def gone2 : Opr := ⟨2, ⟨2, .empty, []⟩, ⟨.empty, ⟨0, 0, .empty⟩⟩, ⟨.empty, 0, 0⟩⟩
theorem guard_fact : gckE (simpS (-1)) (manyG 2 1) [gone2] = 0 ∧ mayR (simpS (-1)) (manyG 2 1) [gone2] = true := by
  constructor <;> decide +kernel
end Go.Proofs.YtkaolglpmajeaaaGreat

/- Contract: delta.All: ops one behind the other. No condition. -/
namespace Go.Proofs.YtkaolglpmajeaaaGreat
open Go Go.RowKit

/-- A graph, which op is wrong, and an error. -/
def RetA (g : Grf) (n : Nat) (err : Int) (w : World) (e : Ending) (w' : World) : Prop := ∃ vn vt, e = .returned (.tuple #[.agg #[vn, vt], .int .i64 n, errV err]) ∧ GrfR w' vn vt g ∧ Below w.heap.size w w'
theorem all_at {l : List Opr} {k : Nat} {o : Opr} (h : l[k]? = some o) (g : Grf) : allE g (l.drop k) = (if opE g o = 0 then allE (opG g o) (l.drop (k + 1)) else opE g o) ∧ allG g (l.drop k) = (if opE g o = 0 then allG (opG g o) (l.drop (k + 1)) else ⟨[], []⟩) ∧
    allI g (l.drop k) = (if opE g o = 0 then allI (opG g o) (l.drop (k + 1)) + 1 else 0) := by
  rw [drop_cons h]; exact ⟨rfl, rfl, rfl⟩
theorem grf_work2 {g : Grf} (h : grfE g = 0) : chain nodLt g.nodes = true ∧ chain tieLt g.ties = true ∧ g.nodes.length ≤ 60 ∧ g.ties.length ≤ 120 ∧ ∀ d ∈ g.nodes, d.props.length ≤ 1000 := by
  obtain ⟨h1, h2, h3, h4⟩ := grf_ok h
  exact ⟨h3, (grf_ties h).1, h1, h2, fun d hd => by have := (rec_ok (nod_rec' (h4 d hd).2)).1; omega⟩
/-- At the head of the loop: the graph in the law's box is the call's own. -/
structure AInv (w : World) (B : Nat) (g : Grf) (l : List Opr) (k : Nat) (gk : Grf) (vn vt : Value) (xs : List Value) (wr : World) : Prop where
  q : wr.heap[w.heap.size]? = some (.cells #[vn, vt] 29 (0, 0))
  p : wr.heap[w.heap.size + 1]? = some (.cells #[.slice none 0 0, .slice none 0 0] 29 (0, 0))
  o : OwnG wr B vn vt gk xs
  r : grfE gk = 0
  b : Below w.heap.size w wr
  z : B ≤ wr.heap.size
  ee : allE g l = allE gk (l.drop k)
  gg : allG g l = allG gk (l.drop k)
  ii : allI g l = allI gk (l.drop k) + k
theorem AInv.below {w wr wx : World} {B : Nat} {g : Grf} {l : List Opr} {k : Nat} {gk : Grf} {vn vt : Value} {xs : List Value} (h : AInv w B g l k gk vn vt xs wr) (hb : Below wr.heap.size wr wx) : AInv w B g l k gk vn vt xs wx :=
  ⟨(hb.block _ (Array.getElem?_eq_some_iff.1 h.q).1).trans h.q, (hb.block _ (Array.getElem?_eq_some_iff.1 h.p).1).trans h.p, h.o.below hb, h.r, h.b.trans (hb.mono h.b.size), Nat.le_trans h.z hb.size, h.ee, h.gg, h.ii⟩
set_option maxRecDepth 100000 in
set_option maxHeartbeats 16000000 in
theorem dall_any (g : Grf) (l : List Opr) (vn vt vl : Value) (w : World) (hG : GrfR w vn vt g) (hL : Sl oprL w vl l) :
    Calls Tryz.prog 7 #[.agg #[vn, vt], vl] w (RetA (dallG g l) (dallI g l) (dallE g l) w) := by
  obtain ⟨An, cn, rfl, _, _⟩ := hG.1.form
  obtain ⟨At, ct, rfl, _, _⟩ := hG.2.form
  obtain ⟨Al, cl, rfl, hlc, hlm⟩ := hL.form
  unfold maxLen at hlm
  obtain ⟨W0, hW0⟩ : ∃ W0, W0 = (w.alloc (.cells #[.slice An g.nodes.length cn, .slice At g.ties.length ct] 29)).alloc (.cells #[.slice none 0 0, .slice none 0 0] 29) := ⟨_, rfl⟩
  have hb0 : Below w.heap.size w W0 := by rw [hW0]; exact ((Below.refl _ _).alloc (Nat.le_refl _) _).alloc (by simp) _
  have g0 : W0.heap[w.heap.size]? = some (.cells #[.slice An g.nodes.length cn, .slice At g.ties.length ct] 29 (0, 0)) := by
    rw [hW0, Below.heap_alloc _ _ _ (by simp)]; exact heap_alloc_new _ _
  have g1 : W0.heap[w.heap.size + 1]? = some (.cells #[.slice none 0 0, .slice none 0 0] 29 (0, 0)) := by
    have := heap_alloc_new (w.alloc (.cells #[.slice An g.nodes.length cn, .slice At g.ties.length ct] 29)) (.cells #[.slice none 0 0, .slice none 0 0] 29); rw [hW0]; simpa using this
  have hsz : W0.heap.size = w.heap.size + 2 := by rw [hW0]; simp
  have hW0' := hW0.symm
  have hw0 := hb0.size
  have HDE : Hid (dallE g l = if 40 < l.length then 4 else if grfE g = 0 then allE g l else grfE g) := rfl
  have HDG : Hid (dallG g l = if dallE g l = 0 then allG g l else ⟨[], []⟩) := rfl
  have HDI : Hid (dallI g l = if 40 < l.length then 0 else if grfE g = 0 then (if allE g l = 0 then 0 else allI g l) else 0) := rfl
  generalize dallE g l = de at *
  generalize dallG g l = dg at *
  generalize dallI g l = di at *
  have HG := Lib.hid (hG.below hb0)
  have HL := Lib.hid (hL.below hb0)
  have hck := grfCheck_any g _ _ W0 (hG.below hb0)
  have G0 := Lib.hid g0
  have G1 := Lib.hid g1
  have hL0 := hL
  clear hG hL hW0
  by_cases hl40 : 40 < l.length
  · clear hL0
    have HEE : Hid (errV de = .iface 65 (.int .i64 4) ∧ dg = ⟨[], []⟩ ∧ (di : Int) = 0) := by
      have h0 : de = 4 := by rw [HDE.out, if_pos hl40]
      exact ⟨by rw [h0]; rfl, by rw [HDG.out, h0]; rfl, by rw [HDI.out, if_pos hl40]; rfl⟩
    have hl40' : (40 : Int) < (l.length : Int) := by omega
    clear HDE HDG HDI hck g0
    go_enter Tryz.func7, Tryz.ntmps7
    go_upto_region 1 with fail
    clear hW0'
    -- no graph comes back: W0: the world; g1: that the result's block stands there; hb0: above w; 0: which op; .iface 65 (.int .i64 4): the error's term
    -- what is returned is stored: W0: the world; g1: the block stands there
    have a0 := block_free (g1) 0
    have a1 := block_free (g1) 1
    have a2 := block_cell (g1) 0
    have a3 := block_cell (g1) 1
    have HP4 := Lib.hid (setCell_block (setCell_block (g1) 0 (.slice none 0 0)) 1 (.slice none 0 0))
    clear g1
    go_wp2_with fail
    have k2 := block_cell HP4.out 0
    have k3 := block_cell HP4.out 1
    exact bodyPost_ret (v := .tuple #[.agg #[.slice none 0 0, .slice none 0 0], .int .i64 (0), .iface 65 (.int .i64 4)]) (by simp [results, Tryz.results7, go_sem, k2, k3]) rfl
      ⟨.slice none 0 0, .slice none 0 0, by rw [HEE.out.1, HEE.out.2.2], by rw [HEE.out.2.1]; exact ⟨Sl.nil 0 (Nat.zero_le _) none, Sl.nil 0 (Nat.zero_le _) none⟩, ((hb0).setCell (p := ⟨w.heap.size + 1, 0, none⟩) (by show w.heap.size ≤ w.heap.size + 1; omega) _).setCell (p := ⟨w.heap.size + 1, 1, none⟩) (by show w.heap.size ≤ w.heap.size + 1; omega) _⟩
  have hl40' : ¬ ((40 : Int) < (l.length : Int)) := by omega
  have x0 := block_cell g0 0
  have x1 := block_cell g0 1
  clear g0 g1
  go_enter Tryz.func7, Tryz.ntmps7
  go_wp2_with fail
  clear hW0'
  refine hck.mono ?_
  clear hck x0 x1
  rintro e w1 ⟨rfl, hb1⟩
  have hB1 := hb0.trans (hb1.mono hw0)
  have m0 := (hb1.block _ (Array.getElem?_eq_some_iff.1 G0.out).1).trans G0.out
  have m1 := (hb1.block _ (Array.getElem?_eq_some_iff.1 G1.out).1).trans G1.out
  have hs1 := hb1.size
  by_cases he : grfE g = 0
  case neg =>
    have HEE : Hid (errV de = .iface 65 (.int .i64 (grfE g)) ∧ dg = ⟨[], []⟩ ∧ (di : Int) = 0) := by
      have h0 : de = grfE g := by rw [HDE.out, if_neg hl40, if_neg he]
      exact ⟨by rw [h0]; exact errV_some he, by rw [HDG.out, h0, if_neg he], by rw [HDI.out, if_neg hl40, if_neg he]; rfl⟩
    rw [errV_some he]
    clear he HDE HDG HDI m0 hL0
    -- no graph comes back: w1: the world; m1: that the result's block stands there; hB1: above w; 0: which op; .iface 65 (.int .i64 (grfE g)): the error's term
    -- what is returned is stored: w1: the world; m1: the block stands there
    have a0 := block_free (m1) 0
    have a1 := block_free (m1) 1
    have a2 := block_cell (m1) 0
    have a3 := block_cell (m1) 1
    have HP4 := Lib.hid (setCell_block (setCell_block (m1) 0 (.slice none 0 0)) 1 (.slice none 0 0))
    clear m1
    go_wp2_with fail
    have k2 := block_cell HP4.out 0
    have k3 := block_cell HP4.out 1
    exact bodyPost_ret (v := .tuple #[.agg #[.slice none 0 0, .slice none 0 0], .int .i64 (0), .iface 65 (.int .i64 (grfE g))]) (by simp [results, Tryz.results7, go_sem, k2, k3]) rfl
      ⟨.slice none 0 0, .slice none 0 0, by rw [HEE.out.1, HEE.out.2.2], by rw [HEE.out.2.1]; exact ⟨Sl.nil 0 (Nat.zero_le _) none, Sl.nil 0 (Nat.zero_le _) none⟩, ((hB1).setCell (p := ⟨w.heap.size + 1, 0, none⟩) (by show w.heap.size ≤ w.heap.size + 1; omega) _).setCell (p := ⟨w.heap.size + 1, 1, none⟩) (by show w.heap.size ≤ w.heap.size + 1; omega) _⟩
  rw [errV_zero he]
  obtain ⟨k1, k2, k3, k4, k5⟩ := grf_work2 he
  have hown := own_any g _ _ w1 (HG.out.below hb1) (by omega) (by omega) k5
  have HD2 : Hid (de = allE g l ∧ dg = (if de = 0 then allG g l else ⟨[], []⟩) ∧ di = (if allE g l = 0 then 0 else allI g l)) := ⟨by rw [HDE.out, if_neg hl40, if_pos he], HDG.out, by rw [HDI.out, if_neg hl40, if_pos he]⟩
  have x0 := block_cell m0 0
  have x1 := block_cell m0 1
  have f0 := block_free m0 0
  have f1 := block_free m0 1
  have HGE := Lib.hid he
  have M0 := Lib.hid m0
  have M1 := Lib.hid m1
  clear HDE HDG HDI he m0 m1 k1 k2 k3 k4 k5
  have HLW := Lib.hid hL0
  clear hL0
  have hB1s : w.heap.size + 2 ≤ w1.heap.size := by omega
  go_wp2_with fail
  refine hown.mono ?_
  clear hown x0 x1
  rintro e w2 ⟨un, ut, ys, rfl, ho2, hb2⟩
  obtain ⟨A2, c2, rfl, _, _⟩ := ho2.n.form
  obtain ⟨A3, c3, rfl, _, _⟩ := ho2.t.form
  have n0 := (hb2.block _ (Array.getElem?_eq_some_iff.1 M0.out).1).trans M0.out
  have n1 := (hb2.block _ (Array.getElem?_eq_some_iff.1 M1.out).1).trans M1.out
  have hI0 : AInv w w1.heap.size g l 0 g (.slice A2 g.nodes.length c2) (.slice A3 g.ties.length c3) ys ((w2.setCell ⟨w.heap.size, 0, none⟩ (.slice A2 g.nodes.length c2)).setCell ⟨w.heap.size, 1, none⟩ (.slice A3 g.ties.length c3)) := by
    have hS : ∀ T, 29 ≠ T → Same T w2 ((w2.setCell ⟨w.heap.size, 0, none⟩ (.slice A2 g.nodes.length c2)).setCell ⟨w.heap.size, 1, none⟩ (.slice A3 g.ties.length c3)) := fun T hT => (Same.setCell (p := ⟨w.heap.size, 0, none⟩) n0 hT _).trans (Same.setCell (p := ⟨w.heap.size, 1, none⟩) (setCell_block n0 0 _) hT _)
    refine ⟨setCell_block (setCell_block n0 0 _) 1 _, ?_, ho2.same (hS _ (by decide)) (hS _ (by decide)) (hS _ (by decide)), HGE.out, ((hB1.trans (hb2.mono (by omega))).setCell (p := ⟨w.heap.size, 0, none⟩) (Nat.le_refl _) _).setCell (p := ⟨w.heap.size, 1, none⟩) (Nat.le_refl _) _, ?_, by rw [List.drop_zero], by rw [List.drop_zero], by rw [List.drop_zero]; rfl⟩
    · rw [Below.heap_setCell _ _ _ _ (by show w.heap.size + 1 ≠ w.heap.size; omega), Below.heap_setCell _ _ _ _ (by show w.heap.size + 1 ≠ w.heap.size; omega)]; exact n1
    · have := hb2.size; simp [World.setCell]; omega
  have f0 := block_free n0 0
  have f1 := block_free n0 1
  have x0 := block_cell n0 0
  have x1 := block_cell n0 1
  have HI0 := Lib.hid hI0
  clear hI0 n0 n1 ho2 hb2
  go_wp2_with fail
  clear f0 f1 x0 x1
  go_loopw [27] (fun i wr => ∃ (k : Nat) (gk : Grf) (vn vt : Value) (xs : List Value), k ≤ l.length ∧ i = .int .i64 k ∧ AInv w w1.heap.size g l k gk vn vt xs wr) (fun i _ => l.length - (intOf i).toNat)
  case atStart => exact ⟨0, g, _, _, ys, Nat.zero_le _, rfl, HI0.out⟩
  case round =>
    clear HI0
    obtain ⟨k, gk, vnk, vtk, xs, hk, rfl, hI⟩ := hrel
    obtain ⟨A4, c4, rfl, _, _⟩ := hI.o.n.form
    obtain ⟨A5, c5, rfl, _, _⟩ := hI.o.t.form
    have HI := Lib.hid hI
    have hbw := hI.b
    have hbs := hI.z
    clear hI
    by_cases hlt : k < l.length
    · obtain ⟨o, hd⟩ : ∃ d, l[k]? = some d := ⟨_, List.getElem?_eq_getElem hlt⟩
      have hlt' : (k : Int) < (l.length : Int) := by omega
      obtain ⟨bo, oo, vr, hA, hor, hcells⟩ := opr_at (HLW.out.below hbw) hd
      subst hA
      obtain ⟨hN1, hN2, hN3⟩ := all_at hd gk
      have HN := Lib.hid (And.intro hN1 (And.intro hN2 hN3))
      obtain ⟨Ar, cr, hvr, _, _⟩ := hor.r.form
      subst hvr
      obtain ⟨what, node, prop, tie⟩ := o
      have q0 : wr.cell? ⟨bo, oo + k * 11, none⟩ = some (.int .i64 what) := hcells 0 _ rfl
      have q1 : wr.cell? ⟨bo, oo + k * 11 + 1, none⟩ = some (.int .i64 node.id) := hcells 1 _ rfl
      have q2 : wr.cell? ⟨bo, oo + k * 11 + 2, none⟩ = some (.string node.kind) := hcells 2 _ rfl
      have q3 : wr.cell? ⟨bo, oo + k * 11 + 3, none⟩ = some (.slice Ar node.props.length cr) := hcells 3 _ rfl
      have q4 : wr.cell? ⟨bo, oo + k * 11 + 4, none⟩ = some (.string prop.name) := hcells 4 _ rfl
      have q5 : wr.cell? ⟨bo, oo + k * 11 + 5, none⟩ = some (.int .i64 prop.v.ty) := hcells 5 _ rfl
      have q6 : wr.cell? ⟨bo, oo + k * 11 + 6, none⟩ = some (.int .i64 prop.v.n) := hcells 6 _ rfl
      have q7 : wr.cell? ⟨bo, oo + k * 11 + 7, none⟩ = some (.string prop.v.s) := hcells 7 _ rfl
      have q8 : wr.cell? ⟨bo, oo + k * 11 + 8, none⟩ = some (.string tie.bond) := hcells 8 _ rfl
      have q9 : wr.cell? ⟨bo, oo + k * 11 + 9, none⟩ = some (.int .i64 tie.src) := hcells 9 _ rfl
      have q10 : wr.cell? ⟨bo, oo + k * 11 + 10, none⟩ = some (.int .i64 tie.dst) := hcells 10 _ rfl
      have hbk := heap_alloc_new wr (.cells #[.int .i64 what, .int .i64 node.id, .string node.kind, .slice Ar node.props.length cr, .string prop.name, .int .i64 prop.v.ty, .int .i64 prop.v.n, .string prop.v.s, .string tie.bond, .int .i64 tie.src, .int .i64 tie.dst] 48)
      have ha1 : Below wr.heap.size wr (wr.alloc (.cells #[.int .i64 what, .int .i64 node.id, .string node.kind, .slice Ar node.props.length cr, .string prop.name, .int .i64 prop.v.ty, .int .i64 prop.v.n, .string prop.v.s, .string tie.bond, .int .i64 tie.src, .int .i64 tie.dst] 48)) := (Below.refl _ _).alloc (Nat.le_refl _) _
      have HOR := Lib.hid hor
      clear hd hcells hor hN1 hN2 hN3
      go_upto_region 10 with fail
      generalize wr.alloc (.cells #[.int .i64 what, .int .i64 node.id, .string node.kind, .slice Ar node.props.length cr, .string prop.name, .int .i64 prop.v.ty, .int .i64 prop.v.n, .string prop.v.s, .string tie.bond, .int .i64 tie.src, .int .i64 tie.dst] 48) = wa at *
      clear q0 q1 q2 q3 q4 q5 q6 q7 q8 q9 q10
      have hIa := HI.out.below ha1
      obtain ⟨j1, j2, j3, j4, _⟩ := grf_work2 HI.out.r
      have hdo := do_any gk ⟨what, node, prop, tie⟩ _ _ (.slice Ar node.props.length cr) xs w1.heap.size wa (by have := ha1.size; omega) hIa.o (HOR.out.below ha1) j1 j2 (by omega) (by omega)
      have y0 := block_cell hbk 0
      have y1 := block_cell hbk 1
      have y2 := block_cell hbk 2
      have y3 := block_cell hbk 3
      have y4 := block_cell hbk 4
      have y5 := block_cell hbk 5
      have y6 := block_cell hbk 6
      have y7 := block_cell hbk 7
      have y8 := block_cell hbk 8
      have y9 := block_cell hbk 9
      have y10 := block_cell hbk 10
      have x0 := block_cell hIa.q 0
      have x1 := block_cell hIa.q 1
      have HIA := Lib.hid hIa
      have hdo' : Calls Tryz.prog 13 #[.agg #[.slice A4 gk.nodes.length c4, .slice A5 gk.ties.length c5], .agg #[.int .i64 what, .int .i64 node.id, .string node.kind, .slice Ar node.props.length cr, .string prop.name, .int .i64 prop.v.ty, .int .i64 prop.v.n, .string prop.v.s, .string tie.bond, .int .i64 tie.src, .int .i64 tie.dst]] wa (RetOG w1.heap.size (.slice A4 gk.nodes.length c4) (.slice A5 gk.ties.length c5) (opG gk ⟨what, node, prop, tie⟩) (opE gk ⟨what, node, prop, tie⟩) wa) := hdo
      clear hIa j1 j2 j3 j4 hbk hdo
      generalize hge : opE gk ⟨what, node, prop, tie⟩ = oe at *
      generalize hgg : opG gk ⟨what, node, prop, tie⟩ = og at *
      have HGE2 := Lib.hid hge
      have HGG := Lib.hid hgg
      clear hge hgg
      go_wp2_with fail
      refine hdo'.mono ?_
      clear hdo' y0 y1 y2 y3 y4 y5 y6 y7 y8 y9 y10 x0 x1
      rintro e w3 ⟨un, ut, rfl, how, ⟨A6, n6, c6, A7, n7, c7, rfl, rfl⟩, hB3, hK3⟩
      have hs3 := hK3.s
      have p0 := (hB3.block _ (by omega)).trans HIA.out.q
      have p1 := (hB3.block _ (by omega)).trans HIA.out.p
      have hx3 : Below w3.heap.size w3 (w3.alloc (.cells #[.slice A6 n6 c6, .slice A7 n7 c7] 29)) := (Below.refl _ _).alloc (Nat.le_refl _) _
      have r0 := (hx3.block _ (Array.getElem?_eq_some_iff.1 p0).1).trans p0
      have r1 := (hx3.block _ (Array.getElem?_eq_some_iff.1 p1).1).trans p1
      have rn := heap_alloc_new w3 (.cells #[.slice A6 n6 c6, .slice A7 n7 c7] 29)
      have hbx : Below w.heap.size w (w3.alloc (.cells #[.slice A6 n6 c6, .slice A7 n7 c7] 29)) := (HIA.out.b.trans (hB3.mono (by omega))).alloc (by have := ha1.size; have := hbw.size; omega) _
      have has := ha1.size
      by_cases hoe : oe = 0
      · have how2 := how hoe
        obtain ⟨zs, hz⟩ := how2
        have hzx := hz.below hx3
        have hnn : n6 = og.nodes.length ∧ n7 = og.ties.length := by
          obtain ⟨a1, a2, a3, _, _⟩ := hz.n.form
          obtain ⟨b1, b2, b3, _, _⟩ := hz.t.form
          injection a3 with _ a3 _
          injection b3 with _ b3 _
          exact ⟨a3, b3⟩
        rw [errV_zero hoe]
        have hE : AInv w w1.heap.size g l (k + 1) og (.slice A6 n6 c6) (.slice A7 n7 c7) zs (((w3.alloc (.cells #[.slice A6 n6 c6, .slice A7 n7 c7] 29)).setCell ⟨w.heap.size, 0, none⟩ (.slice A6 n6 c6)).setCell ⟨w.heap.size, 1, none⟩ (.slice A7 n7 c7)) := by
          have hS : ∀ T, 29 ≠ T → Same T (w3.alloc (.cells #[.slice A6 n6 c6, .slice A7 n7 c7] 29)) (((w3.alloc (.cells #[.slice A6 n6 c6, .slice A7 n7 c7] 29)).setCell ⟨w.heap.size, 0, none⟩ (.slice A6 n6 c6)).setCell ⟨w.heap.size, 1, none⟩ (.slice A7 n7 c7)) := fun T hT => (Same.setCell (p := ⟨w.heap.size, 0, none⟩) r0 hT _).trans (Same.setCell (p := ⟨w.heap.size, 1, none⟩) (setCell_block r0 0 _) hT _)
          obtain ⟨e1, e2, e3⟩ := HN.out
          have e1 : allE gk (l.drop k) = if oe = 0 then allE og (l.drop (k + 1)) else oe := e1
          have e2 : allG gk (l.drop k) = if oe = 0 then allG og (l.drop (k + 1)) else ⟨[], []⟩ := e2
          have e3 : allI gk (l.drop k) = if oe = 0 then allI og (l.drop (k + 1)) + 1 else 0 := e3
          rw [if_pos hoe] at e1 e2 e3
          refine ⟨setCell_block (setCell_block r0 0 _) 1 _, ?_, hzx.same (hS _ (by decide)) (hS _ (by decide)) (hS _ (by decide)), ?_, (hbx.setCell (p := ⟨w.heap.size, 0, none⟩) (Nat.le_refl _) _).setCell (p := ⟨w.heap.size, 1, none⟩) (Nat.le_refl _) _, ?_, by rw [HIA.out.ee, e1], by rw [HIA.out.gg, e2], by rw [HIA.out.ii, e3]; omega⟩
          · rw [Below.heap_setCell _ _ _ _ (by show w.heap.size + 1 ≠ w.heap.size; omega), Below.heap_setCell _ _ _ _ (by show w.heap.size + 1 ≠ w.heap.size; omega)]; exact r1
          · have := op_right HIA.out.r (HGE2.out.trans hoe)
            rw [HGG.out] at this
            exact this
          · simp [World.setCell]; omega
        have HE := Lib.hid hE
        have a0 := block_free r0 0
        have a1 := block_free r0 1
        have a2 := block_cell r0 0
        have a3 := block_cell r0 1
        have a4 := block_cell rn 0
        have a5 := block_cell rn 1
        clear hE hz hzx how p0 p1 r0 r1 rn hB3 hK3 hoe hnn hx3 hbx
        go_wp2_with fail
        go_roundw
        case rel => exact ⟨k + 1, og, _, _, zs, by omega, by go_num, HE.out⟩
        case measure => simp [intOf]; omega
      · have HEE : Hid (errV de = .iface 65 (.int .i64 oe) ∧ dg = ⟨[], []⟩ ∧ (di : Int) = k) := by
          obtain ⟨e1, e2, e3⟩ := HN.out
          have e1 : allE gk (l.drop k) = if oe = 0 then allE og (l.drop (k + 1)) else oe := e1
          have e3 : allI gk (l.drop k) = if oe = 0 then allI og (l.drop (k + 1)) + 1 else 0 := e3
          rw [if_neg hoe] at e1 e3
          have h0 : de = oe := by rw [HD2.out.1, HIA.out.ee, e1]
          refine ⟨by rw [h0]; exact errV_some hoe, by rw [HD2.out.2.1, h0, if_neg hoe], ?_⟩
          rw [HD2.out.2.2, ← HD2.out.1, h0, if_neg hoe, HIA.out.ii, e3]; omega
        rw [errV_some hoe]
        clear how p0 p1 r0 rn hB3 hK3 hoe hx3 HD2 HN
        generalize hwx : w3.alloc (.cells #[.slice A6 n6 c6, .slice A7 n7 c7] 29) = wx at *
        -- what is returned is stored: wx: the world; r1: the block stands there
        have a0 := block_free (r1) 0
        have a1 := block_free (r1) 1
        have a2 := block_cell (r1) 0
        have a3 := block_cell (r1) 1
        have HP4 := Lib.hid (setCell_block (setCell_block r1 0 (.slice none 0 0)) 1 (.slice none 0 0))
        clear r1
        go_wp2_with fail
        have k2 := block_cell HP4.out 0
        have k3 := block_cell HP4.out 1
        exact bodyPost_ret (v := .tuple #[.agg #[.slice none 0 0, .slice none 0 0], .int .i64 k, .iface 65 (.int .i64 oe)]) (by simp [results, Tryz.results7, go_sem, k2, k3]) rfl
          ⟨.slice none 0 0, .slice none 0 0, by rw [HEE.out.1, HEE.out.2.2], by rw [HEE.out.2.1]; exact ⟨Sl.nil 0 (Nat.zero_le _) none, Sl.nil 0 (Nat.zero_le _) none⟩, (hbx.setCell (p := ⟨w.heap.size + 1, 0, none⟩) (by show w.heap.size ≤ w.heap.size + 1; omega) _).setCell (p := ⟨w.heap.size + 1, 1, none⟩) (by show w.heap.size ≤ w.heap.size + 1; omega) _⟩
    · obtain rfl : k = l.length := by omega
      have HEE : Hid (errV de = .nilIface ∧ dg = gk ∧ (di : Int) = 0) := by
        have e1 := HI.out.ee
        have e2 := HI.out.gg
        rw [List.drop_length] at e1 e2
        have e1 : allE g l = 0 := e1
        have e2 : allG g l = gk := e2
        have h0 : de = 0 := by rw [HD2.out.1, e1]
        exact ⟨by rw [h0]; rfl, by rw [HD2.out.2.1, if_pos h0, e2], by rw [HD2.out.2.2, if_pos e1]; rfl⟩
      have x0 := block_cell HI.out.q 0
      have x1 := block_cell HI.out.q 1
      have a0 := block_free HI.out.p 0
      have a1 := block_free HI.out.p 1
      have a2 := block_cell HI.out.p 0
      have a3 := block_cell HI.out.p 1
      have HP4 := Lib.hid (setCell_block (setCell_block HI.out.p 0 (.slice A4 gk.nodes.length c4)) 1 (.slice A5 gk.ties.length c5))
      have HR : Hid (GrfR ((wr.setCell ⟨w.heap.size + 1, 0, none⟩ (.slice A4 gk.nodes.length c4)).setCell ⟨w.heap.size + 1, 1, none⟩ (.slice A5 gk.ties.length c5)) (.slice A4 gk.nodes.length c4) (.slice A5 gk.ties.length c5) gk) := by
        have hS : ∀ T, 29 ≠ T → Same T wr ((wr.setCell ⟨w.heap.size + 1, 0, none⟩ (.slice A4 gk.nodes.length c4)).setCell ⟨w.heap.size + 1, 1, none⟩ (.slice A5 gk.ties.length c5)) := fun T hT => (Same.setCell (p := ⟨w.heap.size + 1, 0, none⟩) HI.out.p hT _).trans (Same.setCell (p := ⟨w.heap.size + 1, 1, none⟩) (setCell_block HI.out.p 0 _) hT _)
        exact (HI.out.o.same (hS _ (by decide)) (hS _ (by decide)) (hS _ (by decide))).r
      have HBW := Lib.hid ((hbw.setCell (p := ⟨w.heap.size + 1, 0, none⟩) (by show w.heap.size ≤ w.heap.size + 1; omega) (.slice A4 gk.nodes.length c4)).setCell (p := ⟨w.heap.size + 1, 1, none⟩) (by show w.heap.size ≤ w.heap.size + 1; omega) (.slice A5 gk.ties.length c5))
      clear hbw hlt HD2
      go_wp2_with fail
      have k2 := block_cell HP4.out 0
      have k3 := block_cell HP4.out 1
      exact bodyPost_ret (v := .tuple #[.agg #[.slice A4 gk.nodes.length c4, .slice A5 gk.ties.length c5], .int .i64 0, .nilIface]) (by simp [results, Tryz.results7, go_sem, k2, k3]) rfl
        ⟨_, _, by rw [HEE.out.1, HEE.out.2.2], by rw [HEE.out.2.1]; exact HR.out, HBW.out⟩
end Go.Proofs.YtkaolglpmajeaaaGreat

/- Contracts: guard.Check, guard.May. No condition. -/
namespace Go.Proofs.YtkaolglpmajeaaaGreat
open Go Go.RowKit


set_option maxRecDepth 100000 in
set_option maxHeartbeats 8000000 in
theorem gck_any (s : Scm) (g : Grf) (l : List Opr) (vk vb vn vt vl : Value) (w : World) (hs : ScmR w vk vb s) (hg : GrfR w vn vt g) (hl : Sl oprL w vl l) :
    Calls Tryz.prog 9 #[.agg #[vk, vb], .agg #[vn, vt], vl] w (RetF (gckR s g l) (gckE s g l) w) := by
  obtain ⟨A1, c1, rfl, _, _⟩ := hs.1.form
  obtain ⟨A2, c2, rfl, _, _⟩ := hs.2.form
  obtain ⟨A3, c3, rfl, _, _⟩ := hg.1.form
  obtain ⟨A4, c4, rfl, _, _⟩ := hg.2.form
  obtain ⟨W0, hW0⟩ : ∃ W0, W0 = (w.alloc (.cells #[.slice A1 s.kinds.length c1, .slice A2 s.bonds.length c2] 25)).alloc (.cells #[.slice A3 g.nodes.length c3, .slice A4 g.ties.length c4] 29) := ⟨_, rfl⟩
  have hb0 : Below w.heap.size w W0 := by rw [hW0]; exact ((Below.refl _ _).alloc (Nat.le_refl _) _).alloc (by simp) _
  have g0 : W0.heap[w.heap.size]? = some (.cells #[.slice A1 s.kinds.length c1, .slice A2 s.bonds.length c2] 25 (0, 0)) := by
    rw [hW0, Below.heap_alloc _ _ _ (by simp)]; exact heap_alloc_new _ _
  have g1 : W0.heap[w.heap.size + 1]? = some (.cells #[.slice A3 g.nodes.length c3, .slice A4 g.ties.length c4] 29 (0, 0)) := by
    have := heap_alloc_new (w.alloc (.cells #[.slice A1 s.kinds.length c1, .slice A2 s.bonds.length c2] 25)) (.cells #[.slice A3 g.nodes.length c3, .slice A4 g.ties.length c4] 29); rw [hW0]; simpa using this
  have hW0' := hW0.symm
  have HG0 := Lib.hid g0
  have HG1 := Lib.hid g1
  have x0 := block_cell g0 0
  have x1 := block_cell g0 1
  have y0 := block_cell g1 0
  have y1 := block_cell g1 1
  have hw0 := hb0.size
  obtain ⟨A5, c5, rfl, _, _⟩ := hl.form
  have hrd := cready_any s g _ _ _ _ W0 (hs.below hb0) (hg.below hb0)
  have HS := Lib.hid (hs.below hb0)
  have HG := Lib.hid (hg.below hb0)
  have HL := Lib.hid (hl.below hb0)
  have HCE : Hid (gckE s g l = if readySG s g = 0 then (if (ofF s g).length = 0 then dallE g l else 6) else readySG s g) := rfl
  have HCR : Hid (gckR s g l = if gckE s g l = 0 then ofF s (dallG g l) else []) := rfl
  have HZ : Hid (readySG s g = 0 → (scmE s).2 = 0 ∧ grfE g = 0) := readySG_zero
  have HDZ : Hid (dallE g l = 0 → grfE (dallG g l) = 0) := fun h => (dall_zero h).2.2.2.2
  unfold RetF
  generalize gckE s g l = ce at *
  generalize gckR s g l = cr at *
  generalize hdz : dallE g l = de at *
  have HDE := Lib.hid hdz
  have X0 := Lib.hid x0
  have X1 := Lib.hid x1
  have Y0 := Lib.hid y0
  have Y1 := Lib.hid y1
  clear hs hg hl g0 g1 hW0 hdz
  go_enter Tryz.func9, Tryz.ntmps9
  go_wp2_with fail
  clear hW0'
  refine hrd.mono ?_
  clear hrd x0 x1 y0 y1
  rintro e w1 ⟨rfl, hb1⟩
  have hB1 := hb0.trans (hb1.mono hw0)
  by_cases hz : readySG s g = 0
  case neg =>
    have HE : Hid (errV ce = .iface 65 (.int .i64 (readySG s g)) ∧ cr = []) := by
      have h0 : ce = readySG s g := by rw [HCE.out, if_neg hz]
      exact ⟨by rw [h0]; exact errV_some hz, by rw [HCR.out, h0, if_neg hz]⟩
    rw [errV_some hz]
    clear hz
    go_wp2_with fail
    go_ret2
    exact ⟨.slice none 0 0, by rw [HE.out.1]; rfl, by rw [HE.out.2]; exact Sl.nil 0 (Nat.zero_le _) none, hB1⟩
  rw [errV_zero hz]
  obtain ⟨h1, h2⟩ := HZ.out hz
  have x0 := cell_below hb1 X0.out
  have x1 := cell_below hb1 X1.out
  have y0 := cell_below hb1 Y0.out
  have y1 := cell_below hb1 Y1.out
  have hof := of_any s g _ _ _ _ w1 (HS.out.below hb1) (HG.out.below hb1) h1 h2
  have HCE2 : Hid (ce = if (ofF s g).length = 0 then de else 6) := by unfold Hid; rw [HCE.out, if_pos hz]
  have HOF : Hid (∀ vn' vt' W, GrfR W vn' vt' (dallG g l) → Below W0.heap.size W0 W → de = 0 → Calls Tryz.prog 16 #[.agg #[.slice A1 s.kinds.length c1, .slice A2 s.bonds.length c2], .agg #[vn', vt']] W fun e w' => ∃ u, e = .returned u ∧ Sl fltL w' u (ofF s (dallG g l)) ∧ Below W.heap.size W w') := fun vn' vt' W hgo hW hd =>
    of_any s (dallG g l) _ _ _ _ W (HS.out.below hW) hgo h1 (HDZ.out hd)
  generalize hol : ofF s g = F1 at *
  clear hz h1 h2 HZ HCE hol
  go_wp2_with fail
  refine hof.mono ?_
  clear hof x0 x1 y0 y1
  rintro e w2 ⟨u2, rfl, hu2, hb2⟩
  obtain ⟨A6, c6, rfl, _, _⟩ := hu2.form
  have hB2 := hb1.trans (hb2.mono hb1.size)
  have hBW := hb0.trans (hB2.mono hw0)
  by_cases hl0 : F1.length = 0
  case neg =>
    have hlp : (0 : Int) < (F1.length : Int) := by omega
    have HE : Hid (errV ce = .iface 65 (.int .i64 6) ∧ cr = []) := by
      have h0 : ce = 6 := by rw [HCE2.out, if_neg hl0]
      exact ⟨by rw [h0]; rfl, by rw [HCR.out, h0]; rfl⟩
    clear hl0
    go_wp2_with fail
    go_ret2
    exact ⟨.slice none 0 0, by rw [HE.out.1]; rfl, by rw [HE.out.2]; exact Sl.nil 0 (Nat.zero_le _) none, hBW⟩
  have hlp : ¬ ((0 : Int) < (F1.length : Int)) := by omega
  have HCE3 : Hid (ce = de) := by unfold Hid; rw [HCE2.out, if_pos hl0]
  have y0 := cell_below hB2 Y0.out
  have y1 := cell_below hB2 Y1.out
  have hda := dall_any g l _ _ _ w2 (HG.out.below hB2) (HL.out.below hB2)
  rw [HDE.out] at hda
  clear hl0 HCE2
  go_wp2_with fail
  refine hda.mono ?_
  clear hda y0 y1
  rintro e w3 ⟨un, ut, rfl, hgo, hb3⟩
  obtain ⟨A7, c7, rfl, _, _⟩ := hgo.1.form
  obtain ⟨A8, c8, rfl, _, _⟩ := hgo.2.form
  have hB3 := hB2.trans (hb3.mono hB2.size)
  have hx3 : Below w3.heap.size w3 (w3.alloc (.cells #[.slice A7 (dallG g l).nodes.length c7, .slice A8 (dallG g l).ties.length c8] 29)) := (Below.refl _ _).alloc (Nat.le_refl _) _
  have rn := heap_alloc_new w3 (.cells #[.slice A7 (dallG g l).nodes.length c7, .slice A8 (dallG g l).ties.length c8] 29)
  have hB4 := hB3.trans (hx3.mono hB3.size)
  have hgo4 := hgo.below hx3
  by_cases hd : de = 0
  case neg =>
    have HE : Hid (errV ce = .iface 65 (.int .i64 de) ∧ cr = []) := by
      exact ⟨by rw [HCE3.out]; exact errV_some hd, by rw [HCR.out, HCE3.out, if_neg hd]⟩
    rw [errV_some hd]
    have HBW := Lib.hid (hb0.trans (hB4.mono hw0))
    clear hd rn hgo hgo4 HOF HDZ
    go_wp2_with fail
    go_ret2
    exact ⟨.slice none 0 0, by rw [HE.out.1]; rfl, by rw [HE.out.2]; exact Sl.nil 0 (Nat.zero_le _) none, HBW.out⟩
  have HE : Hid (errV ce = .nilIface ∧ cr = ofF s (dallG g l)) := ⟨by rw [HCE3.out, hd]; rfl, by rw [HCR.out, HCE3.out, if_pos hd]⟩
  have hx := HOF.out _ _ _ hgo4 hB4 hd
  rw [errV_zero hd]
  have x0 := cell_below hB4 X0.out
  have x1 := cell_below hB4 X1.out
  have z0 := block_cell rn 0
  have z1 := block_cell rn 1
  have HB4 := Lib.hid hB4
  clear hd rn hgo hgo4 HOF HDZ hB3 hb3 hx3
  go_upto_region 7 with fail
  generalize w3.alloc (.cells #[.slice A7 (dallG g l).nodes.length c7, .slice A8 (dallG g l).ties.length c8] 29) = w4 at *
  go_wp2_with fail
  refine hx.mono ?_
  clear hx x0 x1 z0 z1
  rintro e w5 ⟨u5, rfl, hu5, hb5⟩
  obtain ⟨A9, c9, rfl, _, _⟩ := hu5.form
  have HU := Lib.hid hu5
  have HBW := Lib.hid (hb0.trans ((HB4.out.trans (hb5.mono HB4.out.size)).mono hw0))
  clear hu5
  go_wp2_with fail
  go_ret2
  exact ⟨_, by rw [HE.out.1]; rfl, by rw [HE.out.2]; exact HU.out, HBW.out⟩
set_option maxRecDepth 100000 in
set_option maxHeartbeats 8000000 in
theorem may_any (s : Scm) (g : Grf) (l : List Opr) (vk vb vn vt vl : Value) (w : World) (hs : ScmR w vk vb s) (hg : GrfR w vn vt g) (hl : Sl oprL w vl l) :
    Calls Tryz.prog 4 #[.agg #[vk, vb], .agg #[vn, vt], vl] w fun e w' => e = .returned (.tuple #[.bool (mayR s g l), errV (gckE s g l)]) ∧ Below w.heap.size w w' := by
  obtain ⟨A1, c1, rfl, _, _⟩ := hs.1.form
  obtain ⟨A2, c2, rfl, _, _⟩ := hs.2.form
  obtain ⟨A3, c3, rfl, _, _⟩ := hg.1.form
  obtain ⟨A4, c4, rfl, _, _⟩ := hg.2.form
  obtain ⟨W0, hW0⟩ : ∃ W0, W0 = (w.alloc (.cells #[.slice A1 s.kinds.length c1, .slice A2 s.bonds.length c2] 25)).alloc (.cells #[.slice A3 g.nodes.length c3, .slice A4 g.ties.length c4] 29) := ⟨_, rfl⟩
  have hb0 : Below w.heap.size w W0 := by rw [hW0]; exact ((Below.refl _ _).alloc (Nat.le_refl _) _).alloc (by simp) _
  have g0 : W0.heap[w.heap.size]? = some (.cells #[.slice A1 s.kinds.length c1, .slice A2 s.bonds.length c2] 25 (0, 0)) := by
    rw [hW0, Below.heap_alloc _ _ _ (by simp)]; exact heap_alloc_new _ _
  have g1 : W0.heap[w.heap.size + 1]? = some (.cells #[.slice A3 g.nodes.length c3, .slice A4 g.ties.length c4] 29 (0, 0)) := by
    have := heap_alloc_new (w.alloc (.cells #[.slice A1 s.kinds.length c1, .slice A2 s.bonds.length c2] 25)) (.cells #[.slice A3 g.nodes.length c3, .slice A4 g.ties.length c4] 29); rw [hW0]; simpa using this
  have hW0' := hW0.symm
  have HG0 := Lib.hid g0
  have HG1 := Lib.hid g1
  have x0 := block_cell g0 0
  have x1 := block_cell g0 1
  have y0 := block_cell g1 0
  have y1 := block_cell g1 1
  have hw0 := hb0.size
  obtain ⟨A5, c5, rfl, _, _⟩ := hl.form
  have hx := gck_any s g l _ _ _ _ _ W0 (hs.below hb0) (hg.below hb0) (hl.below hb0)
  have HM : Hid (mayR s g l = (decide (gckE s g l = 0) && decide ((gckR s g l).length = 0))) := rfl
  generalize mayR s g l = m at *
  generalize gckE s g l = ce at *
  generalize gckR s g l = cr at *
  clear hs hg hl g0 g1 hW0
  go_enter Tryz.func4, Tryz.ntmps4
  go_wp2_with fail
  clear hW0'
  refine hx.mono ?_
  clear hx x0 x1 y0 y1
  rintro e w1 ⟨u, rfl, hu, hb1⟩
  obtain ⟨A6, c6, rfl, _, _⟩ := hu.form
  have hBW := hb0.trans (hb1.mono hw0)
  clear hu
  by_cases hz : ce = 0
  · have hfl : decide ((cr.length : Int) = 0) = decide (cr.length = 0) := by
      by_cases h : cr.length = 0
      · rw [decide_eq_true h, decide_eq_true (by omega)]
      · rw [decide_eq_false h, decide_eq_false (by omega)]
    have hfb : ((cr.length : Int) == 0) = decide (cr.length = 0) := hfl
    have HE : Hid (m = decide (cr.length = 0) ∧ errV ce = .nilIface) := ⟨by rw [HM.out, decide_eq_true hz]; rfl, errV_zero hz⟩
    rw [errV_zero hz]
    clear hz hfl HM
    generalize decide (cr.length = 0) = d at *
    go_wp2_with fail
    go_ret2
    exact ⟨by rw [HE.out.1, HE.out.2]; rfl, hBW⟩
  · have HE : Hid (m = false ∧ errV ce = .iface 65 (.int .i64 ce)) := ⟨by rw [HM.out, decide_eq_false hz]; rfl, errV_some hz⟩
    rw [errV_some hz]
    clear hz HM
    go_wp2_with fail
    go_ret2
    exact ⟨by rw [HE.out.1, HE.out.2]; rfl, hBW⟩
end Go.Proofs.YtkaolglpmajeaaaGreat

/- Contract: the law GuardSame answers true. -/
namespace Go.Proofs.YtkaolglpmajeaaaGreat
open Go Go.RowKit


theorem gone_read {W : World} {b : Nat} (h : W.heap[b]? = some (.cells #[.int .i64 2, .int .i64 2, .string ⟨#[]⟩, .slice none 0 0, .string ⟨#[]⟩, .int .i64 0, .int .i64 0, .string ⟨#[]⟩, .string ⟨#[]⟩, .int .i64 0, .int .i64 0] 48 (0, 0))) : Sl oprL W (.slice (some ⟨b, 0, none⟩) 1 1) [gone2] := by
  refine ⟨_, 1, rfl, Nat.le_refl _, by unfold maxLen; omega, fun i d hi => ?_⟩
  have hI : ∀ z : Int, 0 ≤ z → z ≤ 2 → I64 z := fun z h1 h2 => by unfold I64; omega
  have hS : Sm ByteArray.empty := by unfold Sm; show 0 ≤ 1048576; omega
  match i, hi with
  | 0, hi =>
    injection hi with hi; subst hi
    refine ⟨b, 0, (oprCells gone2 (.slice none 0 0)).toList, rfl, ⟨_, rfl, ⟨Sl.nil 0 (Nat.zero_le _) none, hS, hI 2 (by omega) (by omega), ⟨hS, hI 0 (by omega) (by omega), hI 0 (by omega) (by omega), hS⟩, ⟨hS, hI 0 (by omega) (by omega), hI 0 (by omega) (by omega)⟩⟩⟩, fun j u hj => ?_⟩
    rw [block_cell h]
    simp only [Nat.zero_mul, Nat.zero_add] at *
    rw [← Array.getElem?_toList]
    exact hj
  | i + 1, hi => simp at hi
set_option maxRecDepth 100000 in
set_option maxHeartbeats 16000000 in
theorem guardSame_any (s : Scm) (g : Grf) (l : List Opr) (vk vb vn vt vl : Value) (w : World) (hs : ScmR w vk vb s) (hg : GrfR w vn vt g) (hl : Sl oprL w vl l) :
    Calls Tryz.prog 3 #[.agg #[vk, vb], .agg #[vn, vt], vl] w fun e w' => e = .returned (.bool true) ∧ Below w.heap.size w w' := by
  obtain ⟨A1, c1, rfl, _, _⟩ := hs.1.form
  obtain ⟨A2, c2, rfl, _, _⟩ := hs.2.form
  obtain ⟨A3, c3, rfl, _, _⟩ := hg.1.form
  obtain ⟨A4, c4, rfl, _, _⟩ := hg.2.form
  obtain ⟨W0, hW0⟩ : ∃ W0, W0 = (w.alloc (.cells #[.slice A1 s.kinds.length c1, .slice A2 s.bonds.length c2] 25)).alloc (.cells #[.slice A3 g.nodes.length c3, .slice A4 g.ties.length c4] 29) := ⟨_, rfl⟩
  have hb0 : Below w.heap.size w W0 := by rw [hW0]; exact ((Below.refl _ _).alloc (Nat.le_refl _) _).alloc (by simp) _
  have g0 : W0.heap[w.heap.size]? = some (.cells #[.slice A1 s.kinds.length c1, .slice A2 s.bonds.length c2] 25 (0, 0)) := by
    rw [hW0, Below.heap_alloc _ _ _ (by simp)]; exact heap_alloc_new _ _
  have g1 : W0.heap[w.heap.size + 1]? = some (.cells #[.slice A3 g.nodes.length c3, .slice A4 g.ties.length c4] 29 (0, 0)) := by
    have := heap_alloc_new (w.alloc (.cells #[.slice A1 s.kinds.length c1, .slice A2 s.bonds.length c2] 25)) (.cells #[.slice A3 g.nodes.length c3, .slice A4 g.ties.length c4] 29); rw [hW0]; simpa using this
  have hW0' := hW0.symm
  have HG0 := Lib.hid g0
  have HG1 := Lib.hid g1
  have x0 := block_cell g0 0
  have x1 := block_cell g0 1
  have y0 := block_cell g1 0
  have y1 := block_cell g1 1
  have hw0 := hb0.size
  obtain ⟨A5, c5, rfl, _, _⟩ := hl.form
  have HS := Lib.hid (hs.below hb0)
  have HG := Lib.hid (hg.below hb0)
  have HL := Lib.hid (hl.below hb0)
  have hsi := simple_any (-1) W0 (by unfold I64; omega)
  have HMA : Hid (∀ W, Calls Tryz.prog 6 #[.int .i64 2, .int .i64 1] W fun e w' => ∃ v u xs, e = .returned (.agg #[v, u]) ∧ ManyO W.heap.size w' v u 2 1 xs ∧ GrfR w' v u (manyG 2 1) ∧ Below W.heap.size W w') := fun W => manyO_any 2 1 W (by omega) (by omega)
  have HMY : Hid (∀ W, Below W0.heap.size W0 W → Calls Tryz.prog 4 #[.agg #[.slice A1 s.kinds.length c1, .slice A2 s.bonds.length c2], .agg #[.slice A3 g.nodes.length c3, .slice A4 g.ties.length c4], .slice A5 l.length c5] W fun e w' => e = .returned (.tuple #[.bool (mayR s g l), errV (gckE s g l)]) ∧ Below W.heap.size W w') := fun W h => may_any s g l _ _ _ _ _ W (HS.out.below h) (HG.out.below h) (HL.out.below h)
  have HDA : Hid (∀ W, Below W0.heap.size W0 W → Calls Tryz.prog 7 #[.agg #[.slice A3 g.nodes.length c3, .slice A4 g.ties.length c4], .slice A5 l.length c5] W (RetA (dallG g l) (dallI g l) (dallE g l) W)) := fun W h => dall_any g l _ _ _ W (HG.out.below h) (HL.out.below h)
  have HCO : Hid (∀ vn' vt' W, GrfR W vn' vt' (dallG g l) → Below W0.heap.size W0 W → Calls Tryz.prog 8 #[.agg #[.slice A1 s.kinds.length c1, .slice A2 s.bonds.length c2], .agg #[vn', vt']] W fun e w' => e = .returned (.tuple #[.bool (confR s (dallG g l)), errV (readySG s (dallG g l))]) ∧ Below W.heap.size W w') := fun vn' vt' W hgo hW => conforms_any s (dallG g l) _ _ _ _ W (HS.out.below hW) hgo
  have HGS : Hid (gckE s g l = 0 → dallE g l = 0 ∧ readySG s (dallG g l) = 0 ∧ confR s (dallG g l) = mayR s g l) := guard_same
  generalize mayR s g l = m at *
  generalize gckE s g l = ce at *
  generalize dallE g l = de at *
  generalize readySG s (dallG g l) = rz at *
  generalize confR s (dallG g l) = cf at *
  generalize dallI g l = di at *
  have X0 := Lib.hid x0
  have X1 := Lib.hid x1
  have Y0 := Lib.hid y0
  have Y1 := Lib.hid y1
  clear hs hg hl g0 g1 hW0 x0 x1 y0 y1
  go_enter Tryz.func3, Tryz.ntmps3
  go_upto_region 1 with fail
  clear hW0'
  go_wp2_with fail
  refine hsi.mono ?_
  clear hsi
  rintro e w1 ⟨vk1, vb1, rfl, hs1, hb1⟩
  have hx := HMA.out w1
  go_wp2_with fail
  refine hx.mono ?_
  clear hx HMA
  rintro e w2 ⟨vn1, vt1, _, rfl, _, hg2, hb2⟩
  have hB2 := hb1.trans (hb2.mono hb1.size)
  have hal : Below w2.heap.size w2 (w2.alloc (.cells #[.int .i64 2, .int .i64 2, .string ⟨#[]⟩, .slice none 0 0, .string ⟨#[]⟩, .int .i64 0, .int .i64 0, .string ⟨#[]⟩, .string ⟨#[]⟩, .int .i64 0, .int .i64 0] 48)) := (Below.refl _ _).alloc (Nat.le_refl _) _
  have hnew := heap_alloc_new w2 (.cells #[.int .i64 2, .int .i64 2, .string ⟨#[]⟩, .slice none 0 0, .string ⟨#[]⟩, .int .i64 0, .int .i64 0, .string ⟨#[]⟩, .string ⟨#[]⟩, .int .i64 0, .int .i64 0] 48)
  have hx := may_any (simpS (-1)) (manyG 2 1) [gone2] _ _ _ _ _ _ ((hs1.below hb2).below hal) (hg2.below hal) (gone_read hnew)
  rw [guard_fact.1, guard_fact.2, errV_zero rfl] at hx
  have hB3 := hB2.trans (hal.mono hB2.size)
  clear hnew hs1 hg2
  go_wp2_with fail
  refine hx.mono ?_
  clear hx
  rintro e w4 ⟨rfl, hb4⟩
  have hB4 := hB3.trans (hb4.mono hB3.size)
  have x0 := cell_below hB4 X0.out
  have x1 := cell_below hB4 X1.out
  have y0 := cell_below hB4 Y0.out
  have y1 := cell_below hB4 Y1.out
  have hx := HMY.out w4 hB4
  clear hb4 hB3 hal hB2 hb1 hb2 HMY
  go_wp2_with fail
  refine hx.mono ?_
  clear hx x0 x1 y0 y1
  rintro e w5 ⟨rfl, hb5⟩
  have hB5 := hB4.trans (hb5.mono hB4.size)
  have HBW := Lib.hid (hb0.trans (hB5.mono hw0))
  clear hb5 hB4
  by_cases hz : ce = 0
  case neg =>
    rw [errV_some hz]
    clear hz
    go_wp2_with fail
    go_ret
    exact ⟨rfl, HBW.out⟩
  obtain ⟨h1, h2, h3⟩ := HGS.out hz
  rw [errV_zero hz]
  have y0 := cell_below hB5 Y0.out
  have y1 := cell_below hB5 Y1.out
  have hx := HDA.out w5 hB5
  rw [h1] at hx
  unfold RetA at hx
  rw [errV_zero rfl] at hx
  have HR2 := Lib.hid h2
  subst h3
  clear hz h1 h2 HGS HDA
  go_wp2_with fail
  refine hx.mono ?_
  clear hx y0 y1
  rintro e w6 ⟨un, ut, rfl, hgo, hb6⟩
  obtain ⟨A7, c7, rfl, _, _⟩ := hgo.1.form
  obtain ⟨A8, c8, rfl, _, _⟩ := hgo.2.form
  have hx3 : Below w6.heap.size w6 (w6.alloc (.cells #[.slice A7 (dallG g l).nodes.length c7, .slice A8 (dallG g l).ties.length c8] 29)) := (Below.refl _ _).alloc (Nat.le_refl _) _
  have rn := heap_alloc_new w6 (.cells #[.slice A7 (dallG g l).nodes.length c7, .slice A8 (dallG g l).ties.length c8] 29)
  have hB6 := hB5.trans (hb6.mono hB5.size)
  have hB7 := hB6.trans (hx3.mono hB6.size)
  have hx := HCO.out _ _ _ (hgo.below hx3) hB7
  rw [HR2.out, errV_zero rfl] at hx
  have x0 := cell_below hB7 X0.out
  have x1 := cell_below hB7 X1.out
  have z0 := block_cell rn 0
  have z1 := block_cell rn 1
  clear rn hgo hx3 hB6 hb6 HCO
  go_upto_region 8 with fail
  generalize w6.alloc (.cells #[.slice A7 (dallG g l).nodes.length c7, .slice A8 (dallG g l).ties.length c8] 29) = w7 at *
  go_wp2_with fail
  refine hx.mono ?_
  clear hx x0 x1 z0 z1
  rintro e w8 ⟨rfl, hb8⟩
  have HBX := Lib.hid (hb0.trans ((hB7.trans (hb8.mono hB7.size)).mono hw0))
  clear hb8 hB7 hB5
  cases cf
  all_goals
    go_wp2_with fail
    go_ret
    exact ⟨rfl, HBX.out⟩
end Go.Proofs.YtkaolglpmajeaaaGreat
