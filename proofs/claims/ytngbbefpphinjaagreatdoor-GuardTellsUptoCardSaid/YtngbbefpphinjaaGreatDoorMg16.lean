/- Parts: Many, GdP, DlAll, DelAll, DbP, DbQ, GnP. -/
import Derived.Test.YtngbbefpphinjaaGreatDoorMg02
import Derived.Test.YtngbbefpphinjaaGreatDoorMg04
import Derived.Test.YtngbbefpphinjaaGreatDoorMg07
import Derived.Test.YtngbbefpphinjaaGreatDoorMg10
import Derived.Test.YtngbbefpphinjaaGreatDoorMg15
import Derived.Test.YtngbbefpphinjaaGreatDoorMg09
import Derived.Deep.DeepCutAuto
/- Contracts: kinlaw4.number, kinlaw4.many: so many nodes in a row. -/
namespace Go.Proofs.YtngbbefpphinjaaGreatDoor
open Go Go.RowKit
open Go
def dallE (g : Grf) (l : List Opr) : Int := if 40 < l.length then 4 else if grfE g = 0 then allE g l else grfE g
def dallG (g : Grf) (l : List Opr) : Grf := if dallE g l = 0 then allG g l else ⟨[], []⟩
def allI (g : Grf) : List Opr -> Nat
 | [] => 0
 | o :: r => if opE g o = 0 then allI (opG g o) r + 1 else 0
def dallI (g : Grf) (l : List Opr) : Nat := if 40 < l.length then 0 else if grfE g = 0 then (if allE g l = 0 then 0 else allI g l) else 0
def gckE (s : Scm) (g : Grf) (l : List Opr) : Int := if readySG s g = 0 then (if (ofF s g).length = 0 then dallE g l else 6) else readySG s g
def gckR (s : Scm) (g : Grf) (l : List Opr) : List Flt := if gckE s g l = 0 then ofF s (dallG g l) else []
def mayR (s : Scm) (g : Grf) (l : List Opr) : Bool := decide (gckE s g l = 0) && decide ((gckR s g l).length = 0)
theorem dall_zero {g : Grf} {l : List Opr} (h : dallE g l = 0) : l.length <= 40 /\ grfE g = 0 /\ allE g l = 0 /\ dallG g l = allG g l /\ grfE (dallG g l) = 0 := by
 have h0 := h
 unfold dallE at h
 split at h
 ·cases h
 split at h
 ·rename_i h1 h2
  have e : dallG g l = allG g l := by unfold dallG; rw [if_pos h0]
  exact ⟨by omega, h2, h, e, by rw [e]; exact all_right h2 h⟩
 rename_i h2; exact absurd h h2
theorem gck_zero {s : Scm} {g : Grf} {l : List Opr} (h : gckE s g l = 0) : readySG s g = 0 /\ (ofF s g).length = 0 /\ dallE g l = 0 := by
 unfold gckE at h
 split at h
 ·rename_i h1
  split at h
  ·rename_i h2; exact ⟨h1, h2, h⟩
  cases h
 rename_i h1; exact absurd h h1
def RetAO (g : Grf) (n : Nat) (err : Int) (w : World) (e : Ending) (w' : World) : Prop := ∃ vn vt, e = .returned (.tuple #[.agg #[vn, vt], .int .i64 n, errV err]) /\ (∃ B xs, OwnG w' B vn vt g xs) /\ Below w.heap.size w w'
def RetA (g : Grf) (n : Nat) (err : Int) (w : World) (e : Ending) (w' : World) : Prop := ∃ vn vt, e = .returned (.tuple #[.agg #[vn, vt], .int .i64 n, errV err]) /\ GrfR w' vn vt g /\ Below w.heap.size w w'
theorem all_at {l : List Opr} {k : Nat} {o : Opr} (h : l[k]? = some o) (g : Grf) : allE g (l.drop k) = (if opE g o = 0 then allE (opG g o) (l.drop (k + 1)) else opE g o) /\ allG g (l.drop k) = (if opE g o = 0 then allG (opG g o) (l.drop (k + 1)) else ⟨[], []⟩) /\
 allI g (l.drop k) = (if opE g o = 0 then allI (opG g o) (l.drop (k + 1)) + 1 else 0) := by
 rw [drop_cons h]; exact ⟨rfl, rfl, rfl⟩
theorem grf_work2 {g : Grf} (h : grfE g = 0) : chain nodLt g.nodes = true /\ chain tieLt g.ties = true /\ g.nodes.length <= 60 /\ g.ties.length <= 120 /\ ∀ d ∈ g.nodes, d.props.length <= 1000 := by
 obtain ⟨h1, h2, h3, h4⟩ := grf_ok h
 exact ⟨h3, (grf_ties h).1, h1, h2, fun d hd => by have := (rec_ok (nod_rec' (h4 d hd).2)).1; omega⟩
structure AInv (w : World) (B : Nat) (g : Grf) (l : List Opr) (k : Nat) (gk : Grf) (vn vt : Value) (xs : List Value) (wr : World) : Prop where
 q : wr.heap[w.heap.size]? = some (.cells #[vn, vt] 25 (0, 0))
 p : wr.heap[w.heap.size + 1]? = some (.cells #[.slice none 0 0, .slice none 0 0] 25 (0, 0))
 o : OwnG wr B vn vt gk xs
 r : grfE gk = 0
 b : Below w.heap.size w wr
 z : B <= wr.heap.size
 ee : allE g l = allE gk (l.drop k)
 gg : allG g l = allG gk (l.drop k)
 ii : allI g l = allI gk (l.drop k) + k
theorem AInv.below {w wr wx : World} {B : Nat} {g : Grf} {l : List Opr} {k : Nat} {gk : Grf} {vn vt : Value} {xs : List Value} (h : AInv w B g l k gk vn vt xs wr) (hb : Below wr.heap.size wr wx) : AInv w B g l k gk vn vt xs wx :=
 ⟨(hb.block _ (geB h.q)).trans h.q, (hb.block _ (geB h.p)).trans h.p, h.o.below hb, h.r, h.b.trans (hb.mono h.b.size), Nat.le_trans h.z hb.size, h.ee, h.gg, h.ii⟩
set_option maxRecDepth 100000 in
set_option maxHeartbeats 16000000 in
theorem dall_own (g : Grf) (l : List Opr) (vn vt vl : Value) (w : World) (hG : GrfR w vn vt g) (hL : Sl oprL w vl l) :
 Calls Tryz.prog 13 #[.agg #[vn, vt], vl] w (RetAO (dallG g l) (dallI g l) (dallE g l) w) := by
 obtain ⟨An, cn, rfl, _, _⟩ := hG.1.form
 obtain ⟨At, ct, rfl, _, _⟩ := hG.2.form
 obtain ⟨Al, cl, rfl, hlc, hlm⟩ := hL.form
 unfold maxLen at hlm
 obtain ⟨W0, hW0⟩ : ∃ W0, W0 = (w.alloc (.cells #[.slice An g.nodes.length cn, .slice At g.ties.length ct] 25)).alloc (.cells #[.slice none 0 0, .slice none 0 0] 25) := ⟨_, rfl⟩
 have hb0 : Below w.heap.size w W0 := by rw [hW0]; exact ((Below.refl _ _).alloc (Nat.le_refl _) _).alloc (by simp) _
 have g0 : W0.heap[w.heap.size]? = some (.cells #[.slice An g.nodes.length cn, .slice At g.ties.length ct] 25 (0, 0)) := by
  rw [hW0, Below.heap_alloc _ _ _ (by simp)]; exact heap_alloc_new _ _
 have g1 : W0.heap[w.heap.size + 1]? = some (.cells #[.slice none 0 0, .slice none 0 0] 25 (0, 0)) := by
  have := heap_alloc_new (w.alloc (.cells #[.slice An g.nodes.length cn, .slice At g.ties.length ct] 25)) (.cells #[.slice none 0 0, .slice none 0 0] 25); rw [hW0]; simpa using this
 have hsz : W0.heap.size = w.heap.size + 2 := by rw [hW0]; simp
 have hW0' := hW0.symm
 have hw0 := hb0.size
 have HDE : Hid (dallE g l = if 40 < l.length then 4 else if grfE g = 0 then allE g l else grfE g) := rfl
 have HDG : Hid (dallG g l = if dallE g l = 0 then allG g l else ⟨[], []⟩) := rfl
 have HDI : Hid (dallI g l = if 40 < l.length then 0 else if grfE g = 0 then (if allE g l = 0 then 0 else allI g l) else 0) := rfl
 generalize dallE g l = de at *
 generalize dallG g l = dg at *
 generalize dallI g l = di at *
 have HG := Lib.hid (hG.below hb0)
 have HL := Lib.hid (hL.below hb0)
 have hck := grfCheck_any g _ _ W0 (hG.below hb0)
 have G0 := Lib.hid g0
 have G1 := Lib.hid g1
 have hL0 := hL
 clear hG hL hW0
 by_cases hl40 : 40 < l.length
 ·clear hL0
  have HEE : Hid (errV de = .iface 122 (.int .i64 4) /\ dg = ⟨[], []⟩ /\ (di : Int) = 0) := by
   have h0 : de = 4 := by rw [HDE.out, if_pos hl40]
   exact ⟨by rw [h0]; rfl, by rw [HDG.out, h0]; rfl, by rw [HDI.out, if_pos hl40]; rfl⟩
  have hl40' : (40 : Int) < (l.length : Int) := by omega
  clear HDE HDG HDI hck g0
  go_enter Tryz.func13, Tryz.ntmps13
  go_upto_region 1 with fail
  clear hW0'
  have a0 := block_free (g1) 0
  have a1 := block_free (g1) 1
  have a2 := block_cell (g1) 0
  have a3 := block_cell (g1) 1
  have HP4 := Lib.hid (setCell_block (setCell_block (g1) 0 (.slice none 0 0)) 1 (.slice none 0 0))
  clear g1
  go_wp2_with fail
  have k2 := block_cell HP4.out 0
  have k3 := block_cell HP4.out 1
  exact bodyPost_ret (v := .tuple #[.agg #[.slice none 0 0, .slice none 0 0], .int .i64 (0), .iface 122 (.int .i64 4)]) (by simp [results, Tryz.results13, go_sem, k2, k3]) rfl
   ⟨.slice none 0 0, .slice none 0 0, by rw [HEE.out.1, HEE.out.2.2], by rw [HEE.out.2.1]; exact ⟨0, [], OwnG.nil⟩, ((hb0).setCell (p := ⟨w.heap.size + 1, 0, none⟩) (by show w.heap.size <= w.heap.size + 1; omega) _).setCell (p := ⟨w.heap.size + 1, 1, none⟩) (by show w.heap.size <= w.heap.size + 1; omega) _⟩
 have hl40' : ¬ ((40 : Int) < (l.length : Int)) := by omega
 have x0 := block_cell g0 0
 have x1 := block_cell g0 1
 clear g0 g1
 go_enter Tryz.func13, Tryz.ntmps13
 go_wp2_with fail
 clear hW0'
 refine hck.mono ?_
 clear hck x0 x1
 rintro e w1 ⟨rfl, hb1⟩
 have hB1 := hb0.trans (hb1.mono hw0)
 have m0 := (hb1.block _ (geB G0.out)).trans G0.out
 have m1 := (hb1.block _ (geB G1.out)).trans G1.out
 have hs1 := hb1.size
 by_cases he : grfE g = 0
 case neg =>
  have HEE : Hid (errV de = .iface 122 (.int .i64 (grfE g)) /\ dg = ⟨[], []⟩ /\ (di : Int) = 0) := by
   have h0 : de = grfE g := by rw [HDE.out, if_neg hl40, if_neg he]
   exact ⟨by rw [h0]; exact errV_some he, by rw [HDG.out, h0, if_neg he], by rw [HDI.out, if_neg hl40, if_neg he]; rfl⟩
  rw [errV_some he]
  clear he HDE HDG HDI m0 hL0
  have a0 := block_free (m1) 0
  have a1 := block_free (m1) 1
  have a2 := block_cell (m1) 0
  have a3 := block_cell (m1) 1
  have HP4 := Lib.hid (setCell_block (setCell_block (m1) 0 (.slice none 0 0)) 1 (.slice none 0 0))
  clear m1
  go_wp2_with fail
  have k2 := block_cell HP4.out 0
  have k3 := block_cell HP4.out 1
  exact bodyPost_ret (v := .tuple #[.agg #[.slice none 0 0, .slice none 0 0], .int .i64 (0), .iface 122 (.int .i64 (grfE g))]) (by simp [results, Tryz.results13, go_sem, k2, k3]) rfl
   ⟨.slice none 0 0, .slice none 0 0, by rw [HEE.out.1, HEE.out.2.2], by rw [HEE.out.2.1]; exact ⟨0, [], OwnG.nil⟩, ((hB1).setCell (p := ⟨w.heap.size + 1, 0, none⟩) (by show w.heap.size <= w.heap.size + 1; omega) _).setCell (p := ⟨w.heap.size + 1, 1, none⟩) (by show w.heap.size <= w.heap.size + 1; omega) _⟩
 rw [errV_zero he]
 obtain ⟨k1, k2, k3, k4, k5⟩ := grf_work2 he
 have hown := own_any g _ _ w1 (HG.out.below hb1) (by omega) (by omega) k5
 have HD2 : Hid (de = allE g l /\ dg = (if de = 0 then allG g l else ⟨[], []⟩) /\ di = (if allE g l = 0 then 0 else allI g l)) := ⟨by rw [HDE.out, if_neg hl40, if_pos he], HDG.out, by rw [HDI.out, if_neg hl40, if_pos he]⟩
 have x0 := block_cell m0 0
 have x1 := block_cell m0 1
 have f0 := block_free m0 0
 have f1 := block_free m0 1
 have HGE := Lib.hid he
 have M0 := Lib.hid m0
 have M1 := Lib.hid m1
 clear HDE HDG HDI he m0 m1 k1 k2 k3 k4 k5
 have HLW := Lib.hid hL0
 clear hL0
 have hB1s : w.heap.size + 2 <= w1.heap.size := by omega
 go_wp2_with fail
 refine hown.mono ?_
 clear hown x0 x1
 rintro e w2 ⟨un, ut, ys, rfl, ho2, hb2⟩
 obtain ⟨A2, c2, rfl, _, _⟩ := ho2.n.form
 obtain ⟨A3, c3, rfl, _, _⟩ := ho2.t.form
 have n0 := (hb2.block _ (geB M0.out)).trans M0.out
 have n1 := (hb2.block _ (geB M1.out)).trans M1.out
 have hI0 : AInv w w1.heap.size g l 0 g (.slice A2 g.nodes.length c2) (.slice A3 g.ties.length c3) ys ((w2.setCell ⟨w.heap.size, 0, none⟩ (.slice A2 g.nodes.length c2)).setCell ⟨w.heap.size, 1, none⟩ (.slice A3 g.ties.length c3)) := by
  have hS : ∀ T, 25 ≠ T -> Same T w2 ((w2.setCell ⟨w.heap.size, 0, none⟩ (.slice A2 g.nodes.length c2)).setCell ⟨w.heap.size, 1, none⟩ (.slice A3 g.ties.length c3)) := fun T hT => (Same.setCell (p := ⟨w.heap.size, 0, none⟩) n0 hT _).trans (Same.setCell (p := ⟨w.heap.size, 1, none⟩) (setCell_block n0 0 _) hT _)
  refine ⟨setCell_block (setCell_block n0 0 _) 1 _, ?_, ho2.same (hS _ (by decide)) (hS _ (by decide)) (hS _ (by decide)), HGE.out, ((hB1.trans (hb2.mono (by omega))).setCell (p := ⟨w.heap.size, 0, none⟩) (Nat.le_refl _) _).setCell (p := ⟨w.heap.size, 1, none⟩) (Nat.le_refl _) _, ?_, by rw [List.drop_zero], by rw [List.drop_zero], by rw [List.drop_zero]; rfl⟩
  ·rw [Below.heap_setCell _ _ _ _ (by show w.heap.size + 1 ≠ w.heap.size; omega), Below.heap_setCell _ _ _ _ (by show w.heap.size + 1 ≠ w.heap.size; omega)]; exact n1
  have := hb2.size; simp [World.setCell]; omega
 have f0 := block_free n0 0
 have f1 := block_free n0 1
 have x0 := block_cell n0 0
 have x1 := block_cell n0 1
 have HI0 := Lib.hid hI0
 clear hI0 n0 n1 ho2 hb2
 go_wp2_with fail
 clear f0 f1 x0 x1
 go_loopw [27] (fun i wr => ∃ (k : Nat) (gk : Grf) (vn vt : Value) (xs : List Value), k <= l.length /\ i = .int .i64 k /\ AInv w w1.heap.size g l k gk vn vt xs wr) (fun i _ => l.length - (intOf i).toNat)
 case atStart => exact ⟨0, g, _, _, ys, Nat.zero_le _, rfl, HI0.out⟩
 clear HI0
 obtain ⟨k, gk, vnk, vtk, xs, hk, rfl, hI⟩ := hrel
 obtain ⟨A4, c4, rfl, _, _⟩ := hI.o.n.form
 obtain ⟨A5, c5, rfl, _, _⟩ := hI.o.t.form
 have HI := Lib.hid hI
 have hbw := hI.b
 have hbs := hI.z
 clear hI
 by_cases hlt : k < l.length
 ·obtain ⟨o, hd⟩ : ∃ d, l[k]? = some d := ⟨_, List.getElem?_eq_getElem hlt⟩
  have hlt' : (k : Int) < (l.length : Int) := by omega
  obtain ⟨bo, oo, vr, hA, hor, hcells⟩ := opr_at (HLW.out.below hbw) hd
  subst hA
  obtain ⟨hN1, hN2, hN3⟩ := all_at hd gk
  have HN := Lib.hid (And.intro hN1 (And.intro hN2 hN3))
  obtain ⟨Ar, cr, hvr, _, _⟩ := hor.r.form
  subst hvr
  obtain ⟨what, node, prop, tie⟩ := o
  have q0 : wr.cell? ⟨bo, oo + k * 11, none⟩ = some (.int .i64 what) := hcells 0 _ rfl
  have q1 : wr.cell? ⟨bo, oo + k * 11 + 1, none⟩ = some (.int .i64 node.id) := hcells 1 _ rfl
  have q2 : wr.cell? ⟨bo, oo + k * 11 + 2, none⟩ = some (.string node.kind) := hcells 2 _ rfl
  have q3 : wr.cell? ⟨bo, oo + k * 11 + 3, none⟩ = some (.slice Ar node.props.length cr) := hcells 3 _ rfl
  have q4 : wr.cell? ⟨bo, oo + k * 11 + 4, none⟩ = some (.string prop.name) := hcells 4 _ rfl
  have q5 : wr.cell? ⟨bo, oo + k * 11 + 5, none⟩ = some (.int .i64 prop.v.ty) := hcells 5 _ rfl
  have q6 : wr.cell? ⟨bo, oo + k * 11 + 6, none⟩ = some (.int .i64 prop.v.n) := hcells 6 _ rfl
  have q7 : wr.cell? ⟨bo, oo + k * 11 + 7, none⟩ = some (.string prop.v.s) := hcells 7 _ rfl
  have q8 : wr.cell? ⟨bo, oo + k * 11 + 8, none⟩ = some (.string tie.bond) := hcells 8 _ rfl
  have q9 : wr.cell? ⟨bo, oo + k * 11 + 9, none⟩ = some (.int .i64 tie.src) := hcells 9 _ rfl
  have q10 : wr.cell? ⟨bo, oo + k * 11 + 10, none⟩ = some (.int .i64 tie.dst) := hcells 10 _ rfl
  have hbk := heap_alloc_new wr (.cells #[.int .i64 what, .int .i64 node.id, .string node.kind, .slice Ar node.props.length cr, .string prop.name, .int .i64 prop.v.ty, .int .i64 prop.v.n, .string prop.v.s, .string tie.bond, .int .i64 tie.src, .int .i64 tie.dst] 37)
  have ha1 : Below wr.heap.size wr (wr.alloc (.cells #[.int .i64 what, .int .i64 node.id, .string node.kind, .slice Ar node.props.length cr, .string prop.name, .int .i64 prop.v.ty, .int .i64 prop.v.n, .string prop.v.s, .string tie.bond, .int .i64 tie.src, .int .i64 tie.dst] 37)) := (Below.refl _ _).alloc (Nat.le_refl _) _
  have HOR := Lib.hid hor
  clear hd hcells hor hN1 hN2 hN3
  go_upto_region 10 with fail
  generalize wr.alloc (.cells #[.int .i64 what, .int .i64 node.id, .string node.kind, .slice Ar node.props.length cr, .string prop.name, .int .i64 prop.v.ty, .int .i64 prop.v.n, .string prop.v.s, .string tie.bond, .int .i64 tie.src, .int .i64 tie.dst] 37) = wa at *
  clear q0 q1 q2 q3 q4 q5 q6 q7 q8 q9 q10
  have hIa := HI.out.below ha1
  obtain ⟨j1, j2, j3, j4, _⟩ := grf_work2 HI.out.r
  have hdo := do_any gk ⟨what, node, prop, tie⟩ _ _ (.slice Ar node.props.length cr) xs w1.heap.size wa (by have := ha1.size; omega) hIa.o (HOR.out.below ha1) j1 j2 (by omega) (by omega)
  have y0 := block_cell hbk 0
  have y1 := block_cell hbk 1
  have y2 := block_cell hbk 2
  have y3 := block_cell hbk 3
  have y4 := block_cell hbk 4
  have y5 := block_cell hbk 5
  have y6 := block_cell hbk 6
  have y7 := block_cell hbk 7
  have y8 := block_cell hbk 8
  have y9 := block_cell hbk 9
  have y10 := block_cell hbk 10
  have x0 := block_cell hIa.q 0
  have x1 := block_cell hIa.q 1
  have HIA := Lib.hid hIa
  have hdo' : Calls Tryz.prog 49 #[.agg #[.slice A4 gk.nodes.length c4, .slice A5 gk.ties.length c5], .agg #[.int .i64 what, .int .i64 node.id, .string node.kind, .slice Ar node.props.length cr, .string prop.name, .int .i64 prop.v.ty, .int .i64 prop.v.n, .string prop.v.s, .string tie.bond, .int .i64 tie.src, .int .i64 tie.dst]] wa (RetOG w1.heap.size (.slice A4 gk.nodes.length c4) (.slice A5 gk.ties.length c5) (opG gk ⟨what, node, prop, tie⟩) (opE gk ⟨what, node, prop, tie⟩) wa) := hdo
  clear hIa j1 j2 j3 j4 hbk hdo
  generalize hge : opE gk ⟨what, node, prop, tie⟩ = oe at *
  generalize hgg : opG gk ⟨what, node, prop, tie⟩ = og at *
  have HGE2 := Lib.hid hge
  have HGG := Lib.hid hgg
  clear hge hgg
  go_wp2_with fail
  refine hdo'.mono ?_
  clear hdo' y0 y1 y2 y3 y4 y5 y6 y7 y8 y9 y10 x0 x1
  rintro e w3 ⟨un, ut, rfl, how, ⟨A6, n6, c6, A7, n7, c7, rfl, rfl⟩, hB3, hK3⟩
  have hs3 := hK3.s
  have p0 := (hB3.block _ (by omega)).trans HIA.out.q
  have p1 := (hB3.block _ (by omega)).trans HIA.out.p
  have hx3 : Below w3.heap.size w3 (w3.alloc (.cells #[.slice A6 n6 c6, .slice A7 n7 c7] 25)) := (Below.refl _ _).alloc (Nat.le_refl _) _
  have r0 := (hx3.block _ (geB p0)).trans p0
  have r1 := (hx3.block _ (geB p1)).trans p1
  have rn := heap_alloc_new w3 (.cells #[.slice A6 n6 c6, .slice A7 n7 c7] 25)
  have hbx : Below w.heap.size w (w3.alloc (.cells #[.slice A6 n6 c6, .slice A7 n7 c7] 25)) := (HIA.out.b.trans (hB3.mono (by omega))).alloc (by have := ha1.size; have := hbw.size; omega) _
  have has := ha1.size
  by_cases hoe : oe = 0
  ·have how2 := how hoe
   obtain ⟨zs, hz⟩ := how2
   have hzx := hz.below hx3
   have hnn : n6 = og.nodes.length /\ n7 = og.ties.length := by
    obtain ⟨a1, a2, a3, _, _⟩ := hz.n.form
    obtain ⟨b1, b2, b3, _, _⟩ := hz.t.form
    injection a3 with _ a3 _
    injection b3 with _ b3 _
    exact ⟨a3, b3⟩
   rw [errV_zero hoe]
   have hE : AInv w w1.heap.size g l (k + 1) og (.slice A6 n6 c6) (.slice A7 n7 c7) zs (((w3.alloc (.cells #[.slice A6 n6 c6, .slice A7 n7 c7] 25)).setCell ⟨w.heap.size, 0, none⟩ (.slice A6 n6 c6)).setCell ⟨w.heap.size, 1, none⟩ (.slice A7 n7 c7)) := by
    have hS : ∀ T, 25 ≠ T -> Same T (w3.alloc (.cells #[.slice A6 n6 c6, .slice A7 n7 c7] 25)) (((w3.alloc (.cells #[.slice A6 n6 c6, .slice A7 n7 c7] 25)).setCell ⟨w.heap.size, 0, none⟩ (.slice A6 n6 c6)).setCell ⟨w.heap.size, 1, none⟩ (.slice A7 n7 c7)) := fun T hT => (Same.setCell (p := ⟨w.heap.size, 0, none⟩) r0 hT _).trans (Same.setCell (p := ⟨w.heap.size, 1, none⟩) (setCell_block r0 0 _) hT _)
    obtain ⟨e1, e2, e3⟩ := HN.out
    have e1 : allE gk (l.drop k) = if oe = 0 then allE og (l.drop (k + 1)) else oe := e1
    have e2 : allG gk (l.drop k) = if oe = 0 then allG og (l.drop (k + 1)) else ⟨[], []⟩ := e2
    have e3 : allI gk (l.drop k) = if oe = 0 then allI og (l.drop (k + 1)) + 1 else 0 := e3
    rw [if_pos hoe] at e1 e2 e3
    refine ⟨setCell_block (setCell_block r0 0 _) 1 _, ?_, hzx.same (hS _ (by decide)) (hS _ (by decide)) (hS _ (by decide)), ?_, (hbx.setCell (p := ⟨w.heap.size, 0, none⟩) (Nat.le_refl _) _).setCell (p := ⟨w.heap.size, 1, none⟩) (Nat.le_refl _) _, ?_, by rw [HIA.out.ee, e1], by rw [HIA.out.gg, e2], by rw [HIA.out.ii, e3]; omega⟩
    ·rw [Below.heap_setCell _ _ _ _ (by show w.heap.size + 1 ≠ w.heap.size; omega), Below.heap_setCell _ _ _ _ (by show w.heap.size + 1 ≠ w.heap.size; omega)]; exact r1
    ·have := op_right HIA.out.r (HGE2.out.trans hoe)
     rw [HGG.out] at this
     exact this
    simp [World.setCell]; omega
   have HE := Lib.hid hE
   have a0 := block_free r0 0
   have a1 := block_free r0 1
   have a2 := block_cell r0 0
   have a3 := block_cell r0 1
   have a4 := block_cell rn 0
   have a5 := block_cell rn 1
   clear hE hz hzx how p0 p1 r0 r1 rn hB3 hK3 hoe hnn hx3 hbx
   go_wp2_with fail
   go_roundw
   case rel => exact ⟨k + 1, og, _, _, zs, by omega, by go_num, HE.out⟩
   case measure => simp [intOf]; omega
  have HEE : Hid (errV de = .iface 122 (.int .i64 oe) /\ dg = ⟨[], []⟩ /\ (di : Int) = k) := by
   obtain ⟨e1, e2, e3⟩ := HN.out
   have e1 : allE gk (l.drop k) = if oe = 0 then allE og (l.drop (k + 1)) else oe := e1
   have e3 : allI gk (l.drop k) = if oe = 0 then allI og (l.drop (k + 1)) + 1 else 0 := e3
   rw [if_neg hoe] at e1 e3
   have h0 : de = oe := by rw [HD2.out.1, HIA.out.ee, e1]
   refine ⟨by rw [h0]; exact errV_some hoe, by rw [HD2.out.2.1, h0, if_neg hoe], ?_⟩
   rw [HD2.out.2.2, <- HD2.out.1, h0, if_neg hoe, HIA.out.ii, e3]; omega
  rw [errV_some hoe]
  clear how p0 p1 r0 rn hB3 hK3 hoe hx3 HD2 HN
  generalize hwx : w3.alloc (.cells #[.slice A6 n6 c6, .slice A7 n7 c7] 25) = wx at *
  have a0 := block_free (r1) 0
  have a1 := block_free (r1) 1
  have a2 := block_cell (r1) 0
  have a3 := block_cell (r1) 1
  have HP4 := Lib.hid (setCell_block (setCell_block r1 0 (.slice none 0 0)) 1 (.slice none 0 0))
  clear r1
  go_wp2_with fail
  have k2 := block_cell HP4.out 0
  have k3 := block_cell HP4.out 1
  exact bodyPost_ret (v := .tuple #[.agg #[.slice none 0 0, .slice none 0 0], .int .i64 k, .iface 122 (.int .i64 oe)]) (by simp [results, Tryz.results13, go_sem, k2, k3]) rfl
   ⟨.slice none 0 0, .slice none 0 0, by rw [HEE.out.1, HEE.out.2.2], by rw [HEE.out.2.1]; exact ⟨0, [], OwnG.nil⟩, (hbx.setCell (p := ⟨w.heap.size + 1, 0, none⟩) (by show w.heap.size <= w.heap.size + 1; omega) _).setCell (p := ⟨w.heap.size + 1, 1, none⟩) (by show w.heap.size <= w.heap.size + 1; omega) _⟩
 obtain rfl : k = l.length := by omega
 have HEE : Hid (errV de = .nilIface /\ dg = gk /\ (di : Int) = 0) := by
  have e1 := HI.out.ee
  have e2 := HI.out.gg
  rw [List.drop_length] at e1 e2
  have e1 : allE g l = 0 := e1
  have e2 : allG g l = gk := e2
  have h0 : de = 0 := by rw [HD2.out.1, e1]
  exact ⟨by rw [h0]; rfl, by rw [HD2.out.2.1, if_pos h0, e2], by rw [HD2.out.2.2, if_pos e1]; rfl⟩
 have x0 := block_cell HI.out.q 0
 have x1 := block_cell HI.out.q 1
 have a0 := block_free HI.out.p 0
 have a1 := block_free HI.out.p 1
 have a2 := block_cell HI.out.p 0
 have a3 := block_cell HI.out.p 1
 have HP4 := Lib.hid (setCell_block (setCell_block HI.out.p 0 (.slice A4 gk.nodes.length c4)) 1 (.slice A5 gk.ties.length c5))
 have HR : Hid (∃ B xs, OwnG ((wr.setCell ⟨w.heap.size + 1, 0, none⟩ (.slice A4 gk.nodes.length c4)).setCell ⟨w.heap.size + 1, 1, none⟩ (.slice A5 gk.ties.length c5)) B (.slice A4 gk.nodes.length c4) (.slice A5 gk.ties.length c5) gk xs) := by
  have hS : ∀ T, 25 ≠ T -> Same T wr ((wr.setCell ⟨w.heap.size + 1, 0, none⟩ (.slice A4 gk.nodes.length c4)).setCell ⟨w.heap.size + 1, 1, none⟩ (.slice A5 gk.ties.length c5)) := fun T hT => (Same.setCell (p := ⟨w.heap.size + 1, 0, none⟩) HI.out.p hT _).trans (Same.setCell (p := ⟨w.heap.size + 1, 1, none⟩) (setCell_block HI.out.p 0 _) hT _)
  exact ⟨_, _, HI.out.o.same (hS _ (by decide)) (hS _ (by decide)) (hS _ (by decide))⟩
 have HBW := Lib.hid ((hbw.setCell (p := ⟨w.heap.size + 1, 0, none⟩) (by show w.heap.size <= w.heap.size + 1; omega) (.slice A4 gk.nodes.length c4)).setCell (p := ⟨w.heap.size + 1, 1, none⟩) (by show w.heap.size <= w.heap.size + 1; omega) (.slice A5 gk.ties.length c5))
 clear hbw hlt HD2
 go_wp2_with fail
 have k2 := block_cell HP4.out 0
 have k3 := block_cell HP4.out 1
 exact bodyPost_ret (v := .tuple #[.agg #[.slice A4 gk.nodes.length c4, .slice A5 gk.ties.length c5], .int .i64 0, .nilIface]) (by simp [results, Tryz.results13, go_sem, k2, k3]) rfl
  ⟨_, _, by rw [HEE.out.1, HEE.out.2.2], by rw [HEE.out.2.1]; exact HR.out, HBW.out⟩
theorem dall_any (g : Grf) (l : List Opr) (vn vt vl : Value) (w : World) (hG : GrfR w vn vt g) (hL : Sl oprL w vl l) :
 Calls Tryz.prog 13 #[.agg #[vn, vt], vl] w (RetA (dallG g l) (dallI g l) (dallE g l) w) := (dall_own g l vn vt vl w hG hL).mono fun _ _ h => by
 obtain ⟨un, ut, h1, ⟨B, xs, h2⟩, h3⟩ := h
 exact ⟨un, ut, h1, h2.r, h3⟩
def RetGO (g : Grf) (err : Int) (w : World) (e : Ending) (w' : World) : Prop := ∃ vn vt, e = .returned (.tuple #[.agg #[vn, vt], errV err]) /\ (∃ xs, OwnG w' w.heap.size vn vt g xs) /\ Below w.heap.size w w'
theorem grf_work {g : Grf} (h : grfE g = 0) : chain nodLt g.nodes = true /\ chain tieLt g.ties = true /\ g.nodes.length <= 60 /\ g.ties.length <= 120 /\ ∀ d ∈ g.nodes, d.props.length <= 1000 := by
 obtain ⟨h1, h2, h3, h4⟩ := grf_ok h
 exact ⟨h3, (grf_ties h).1, h1, h2, fun d hd => by have := (rec_ok (nod_rec' (h4 d hd).2)).1; omega⟩
theorem cut_facts {w W3 : World} {B b7 b2 : Nat} {A4 A5 : Option Addr} {n4 c4 n5 c5 : Nat} {g : Grf} {P : Prop} (hN7 : W3.heap[b7]? = some (.cells #[.slice none 0 0, .slice none 0 0] 25 (0, 0))) (hN2 : W3.heap[b2]? = some (.cells #[.slice none 0 0, .slice none 0 0] 25 (0, 0)))
 (hlt : b2 < b7) (how : P -> ∃ xs, OwnG W3 B (.slice A4 n4 c4) (.slice A5 n5 c5) g xs) (hB : Below w.heap.size w W3) (hb : w.heap.size <= b2) :
 ((W3.setCell ⟨b7, 0, none⟩ (.slice A4 n4 c4)).setCell ⟨b7, 1, none⟩ (.slice A5 n5 c5)).heap[b7]? = some (.cells #[.slice A4 n4 c4, .slice A5 n5 c5] 25 (0, 0)) /\
 ((W3.setCell ⟨b7, 0, none⟩ (.slice A4 n4 c4)).setCell ⟨b7, 1, none⟩ (.slice A5 n5 c5)).heap[b2]? = some (.cells #[.slice none 0 0, .slice none 0 0] 25 (0, 0)) /\
 (P -> ∃ xs, OwnG ((W3.setCell ⟨b7, 0, none⟩ (.slice A4 n4 c4)).setCell ⟨b7, 1, none⟩ (.slice A5 n5 c5)) B (.slice A4 n4 c4) (.slice A5 n5 c5) g xs) /\
 Below w.heap.size w ((W3.setCell ⟨b7, 0, none⟩ (.slice A4 n4 c4)).setCell ⟨b7, 1, none⟩ (.slice A5 n5 c5)) := by
 have p7 := setCell_block (setCell_block hN7 0 (.slice A4 n4 c4)) 1 (.slice A5 n5 c5)
 refine ⟨p7, ?_, fun h => ?_, (hB.setCell (p := ⟨b7, 0, none⟩) (by show w.heap.size <= b7; omega) _).setCell (p := ⟨b7, 1, none⟩) (by show w.heap.size <= b7; omega) _⟩
 ·rw [Below.heap_setCell _ _ _ _ (by show b2 ≠ b7; omega), Below.heap_setCell _ _ _ _ (by show b2 ≠ b7; omega)]; exact hN2
 obtain ⟨zs, hz⟩ := how h
 have hS4 : ∀ T, 25 ≠ T -> Same T W3 ((W3.setCell ⟨b7, 0, none⟩ (.slice A4 n4 c4)).setCell ⟨b7, 1, none⟩ (.slice A5 n5 c5)) := fun T hT => (Same.setCell (p := ⟨b7, 0, none⟩) hN7 hT _).trans (Same.setCell (p := ⟨b7, 1, none⟩) (setCell_block hN7 0 _) hT _)
 exact ⟨zs, hz.same (hS4 _ (by decide)) (hS4 _ (by decide)) (hS4 _ (by decide))⟩
set_option maxRecDepth 100000 in
set_option maxHeartbeats 16000000 in
theorem Do_own (g : Grf) (o : Opr) (vn vt vr : Value) (w : World) (hG : GrfR w vn vt g) (hO : OprR w vr o) :
 Calls Tryz.prog 9 #[.agg #[vn, vt], .agg (oprCells o vr)] w (RetGO (doG g o) (doE g o) w) := by
 obtain ⟨An, cn, rfl, _, _⟩ := hG.1.form
 obtain ⟨At, ct, rfl, _, _⟩ := hG.2.form
 obtain ⟨Ar, cr, rfl, _, _⟩ := hO.r.form
 have HDE : Hid (doE g o = if grfE g = 0 then opE g o else grfE g) := rfl
 have HDG : Hid (doG g o = if doE g o = 0 then opG g o else ⟨[], []⟩) := rfl
 obtain ⟨what, node, prop, tie⟩ := o
 have hO' : OprR w (.slice Ar node.props.length cr) ⟨what, node, prop, tie⟩ := hO
 clear hO
 show Calls Tryz.prog 9 #[.agg #[.slice An g.nodes.length cn, .slice At g.ties.length ct], .agg #[.int .i64 what, .int .i64 node.id, .string node.kind, .slice Ar node.props.length cr, .string prop.name, .int .i64 prop.v.ty, .int .i64 prop.v.n, .string prop.v.s, .string tie.bond, .int .i64 tie.src, .int .i64 tie.dst]] w _
 obtain ⟨W0, hW0⟩ : ∃ W0, W0 = (((w.alloc (.cells #[.slice An g.nodes.length cn, .slice At g.ties.length ct] 25)).alloc (.cells #[.int .i64 what, .int .i64 node.id, .string node.kind, .slice Ar node.props.length cr, .string prop.name, .int .i64 prop.v.ty, .int .i64 prop.v.n, .string prop.v.s, .string tie.bond, .int .i64 tie.src, .int .i64 tie.dst] 37)).alloc (.cells #[.slice none 0 0, .slice none 0 0] 25)) := ⟨_, rfl⟩
 have hb0 : Below w.heap.size w W0 := by rw [hW0]; exact (((Below.refl _ _).alloc (Nat.le_refl _) _).alloc (by simp) _).alloc (by simp; omega) _
 have g0 : W0.heap[w.heap.size]? = some (.cells #[.slice An g.nodes.length cn, .slice At g.ties.length ct] 25 (0, 0)) := by
  rw [hW0, Below.heap_alloc _ _ _ (by simp; omega), Below.heap_alloc _ _ _ (by simp)]; exact heap_alloc_new _ _
 have g1 : W0.heap[w.heap.size + 1]? = some (.cells #[.int .i64 what, .int .i64 node.id, .string node.kind, .slice Ar node.props.length cr, .string prop.name, .int .i64 prop.v.ty, .int .i64 prop.v.n, .string prop.v.s, .string tie.bond, .int .i64 tie.src, .int .i64 tie.dst] 37 (0, 0)) := by
  rw [hW0, Below.heap_alloc _ _ _ (by simp)]
  have := heap_alloc_new (w.alloc (.cells #[.slice An g.nodes.length cn, .slice At g.ties.length ct] 25)) (.cells #[.int .i64 what, .int .i64 node.id, .string node.kind, .slice Ar node.props.length cr, .string prop.name, .int .i64 prop.v.ty, .int .i64 prop.v.n, .string prop.v.s, .string tie.bond, .int .i64 tie.src, .int .i64 tie.dst] 37); simpa using this
 have g2 : W0.heap[w.heap.size + 1 + 1]? = some (.cells #[.slice none 0 0, .slice none 0 0] 25 (0, 0)) := by
  have := heap_alloc_new ((w.alloc (.cells #[.slice An g.nodes.length cn, .slice At g.ties.length ct] 25)).alloc (.cells #[.int .i64 what, .int .i64 node.id, .string node.kind, .slice Ar node.props.length cr, .string prop.name, .int .i64 prop.v.ty, .int .i64 prop.v.n, .string prop.v.s, .string tie.bond, .int .i64 tie.src, .int .i64 tie.dst] 37)) (.cells #[.slice none 0 0, .slice none 0 0] 25); rw [hW0]; simpa using this
 have hsz : W0.heap.size = w.heap.size + 3 := by rw [hW0]; simp
 have hW0' := hW0.symm
 have HG := Lib.hid (hG.below hb0)
 have HO := Lib.hid (hO'.below hb0)
 have hck := grfCheck_any g _ _ W0 (hG.below hb0)
 have x0 := block_cell g0 0
 have x1 := block_cell g0 1
 clear hG hO' hW0
 go_enter Tryz.func9, Tryz.ntmps9
 go_wp2_with fail
 refine hck.mono ?_
 clear hck
 rintro e w1 ⟨rfl, hb1⟩
 have hB1 := hb0.trans (hb1.mono hb0.size)
 have m0 := (hb1.block _ (geB g0)).trans g0
 have m1 := (hb1.block _ (geB g1)).trans g1
 have m2 := (hb1.block _ (geB g2)).trans g2
 have hs1 := hb1.size
 clear g0 g1 g2 x0 x1
 by_cases he : grfE g = 0
 case neg =>
  have HEE : Hid (errV (doE g ⟨what, node, prop, tie⟩) = .iface 122 (.int .i64 (grfE g)) /\ doG g ⟨what, node, prop, tie⟩ = ⟨[], []⟩) := by
   have h0 : doE g ⟨what, node, prop, tie⟩ = grfE g := by rw [HDE.out, if_neg he]
   exact ⟨by rw [h0]; exact errV_some he, by rw [HDG.out, h0, if_neg he]⟩
  rw [errV_some he]
  clear he HDE HDG
  have a5 := block_free m2 0
  have a6 := block_free m2 1
  have a7 := block_cell m2 0
  have a8 := block_cell m2 1
  have p4 := setCell_block (setCell_block m2 0 (.slice none 0 0)) 1 (.slice none 0 0)
  have HP4 := Lib.hid p4
  clear p4 m0 m1 m2
  go_wp2_with fail
  have k2 := block_cell HP4.out 0
  have k3 := block_cell HP4.out 1
  exact bodyPost_ret (v := .tuple #[.agg #[.slice none 0 0, .slice none 0 0], .iface 122 (.int .i64 (grfE g))]) (by simp [results, Tryz.results9, go_sem, k2, k3]) rfl
   ⟨.slice none 0 0, .slice none 0 0, by rw [HEE.out.1], by rw [HEE.out.2]; exact ⟨[], OwnG.nil⟩, (hB1.setCell (p := ⟨w.heap.size + 1 + 1, 0, none⟩) (by show w.heap.size <= w.heap.size + 1 + 1; omega) _).setCell (p := ⟨w.heap.size + 1 + 1, 1, none⟩) (by show w.heap.size <= w.heap.size + 1 + 1; omega) _⟩
 obtain ⟨k1, k2, k3, k4, k5⟩ := grf_work he
 have HDE2 : Hid (doE g ⟨what, node, prop, tie⟩ = opE g ⟨what, node, prop, tie⟩) := by unfold Hid; rw [HDE.out, if_pos he]
 rw [errV_zero he]
 have x0 := block_cell m0 0
 have x1 := block_cell m0 1
 have y0 := block_cell m1 0
 have y1 := block_cell m1 1
 have y2 := block_cell m1 2
 have y3 := block_cell m1 3
 have y4 := block_cell m1 4
 have y5 := block_cell m1 5
 have y6 := block_cell m1 6
 have y7 := block_cell m1 7
 have y8 := block_cell m1 8
 have y9 := block_cell m1 9
 have y10 := block_cell m1 10
 have hZ : Below w1.drew.heap.size w1.drew (w1.alloc (.cells #[.slice none 0 0, .slice none 0 0] 25)).drew := ((Below.refl w1.drew.heap.size w1.drew).alloc (Nat.le_refl _) (.cells #[.slice none 0 0, .slice none 0 0] 25) : Below w1.drew.heap.size w1.drew (w1.drew.alloc (.cells #[.slice none 0 0, .slice none 0 0] 25)))
 have hD : Below w1.heap.size w1 w1.drew := (Below.refl _ _).drew
 have hown := own_any g _ _ w1.drew ((HG.out.below hb1).below hD) (by omega) (by omega) k5
 have hown2 := own_any g _ _ ((w1.alloc (.cells #[.slice none 0 0, .slice none 0 0] 25)).drew) (((HG.out.below hb1).below hD).below hZ) (by omega) (by omega) k5
 have HO1 := Lib.hid (HO.out.below hb1)
 have m3 : (w1.alloc (.cells #[.slice none 0 0, .slice none 0 0] 25)).heap[w.heap.size + 1]? = _ := (hZ.block _ (geB m1)).trans m1
 have s0 := block_cell m3 0
 have s1 := block_cell m3 1
 have s2 := block_cell m3 2
 have s3 := block_cell m3 3
 have s4 := block_cell m3 4
 have s5 := block_cell m3 5
 have s6 := block_cell m3 6
 have s7 := block_cell m3 7
 have s8 := block_cell m3 8
 have s9 := block_cell m3 9
 have s10 := block_cell m3 10
 have m4 : (w1.alloc (.cells #[.slice none 0 0, .slice none 0 0] 25)).heap[w.heap.size]? = _ := (hZ.block _ (geB m0)).trans m0
 have t0 := block_cell m4 0
 have t1 := block_cell m4 1
 clear m3 m4
 have M1 := Lib.hid m1
 have M2 := Lib.hid m2
 have hzs : (w1.alloc (.cells #[.slice none 0 0, .slice none 0 0] 25)).drew.heap.size = w1.heap.size + 1 := by show (w1.alloc (.cells #[.slice none 0 0, .slice none 0 0] 25)).heap.size = w1.heap.size + 1; simp
 have hds : w1.drew.heap.size = w1.heap.size := rfl
 have HDO : Hid (∀ (un ut : Value) (ys : List Value) (B : Nat) (W : World), B <= W.heap.size -> OwnG W B un ut g ys -> Below w1.heap.size w1 W ->
  Calls Tryz.prog 49 #[.agg #[un, ut], .agg #[.int .i64 what, .int .i64 node.id, .string node.kind, .slice Ar node.props.length cr, .string prop.name, .int .i64 prop.v.ty, .int .i64 prop.v.n, .string prop.v.s, .string tie.bond, .int .i64 tie.src, .int .i64 tie.dst]] W (RetOG B un ut (opG g ⟨what, node, prop, tie⟩) (opE g ⟨what, node, prop, tie⟩) W)) :=
  fun un ut ys B W h1 h2 h3 => do_any g ⟨what, node, prop, tie⟩ un ut (.slice Ar node.props.length cr) ys B W h1 h2 (HO1.out.below h3) k1 k2 (by omega) (by omega)
 clear he m0 m1 m2 HDE
 go_upto_region 4 with fail
 go_cut [7, 8] (fun p z wx => ∃ (b7 : Nat) (A4 : Option Addr) (n4 c4 : Nat) (A5 : Option Addr) (n5 c5 : Nat), p = .pointer (some ⟨b7, 0, none⟩) /\ z = errV (opE g ⟨what, node, prop, tie⟩) /\ wx.heap[b7]? = some (.cells #[.slice A4 n4 c4, .slice A5 n5 c5] 25 (0, 0)) /\
  wx.heap[w.heap.size + 1 + 1]? = some (.cells #[.slice none 0 0, .slice none 0 0] 25 (0, 0)) /\ (opE g ⟨what, node, prop, tie⟩ = 0 -> ∃ xs, OwnG wx w1.heap.size (.slice A4 n4 c4) (.slice A5 n5 c5) (opG g ⟨what, node, prop, tie⟩) xs) /\ Below w.heap.size w wx /\ w.heap.size + 1 + 1 < b7)
 case first =>
  go_region_law
   (first
     | (refine step_callx rfl 50 #[.agg #[.slice An g.nodes.length cn, .slice At g.ties.length ct]] (by kernel_rfl) hown ?_
        rintro e w2 ⟨un, ut, ys, rfl, ho2, hb2⟩
        refine ⟨_, rfl, ?_⟩
        have hb2' := hD.trans hb2
        have hs2 := hb2.size
        have HO2 := Lib.hid ho2
        obtain ⟨A2, c2, rfl, _, _⟩ := ho2.n.form
        obtain ⟨A3, c3, rfl, _, _⟩ := ho2.t.form
        have hm1 := (hb2'.block _ (geB M1.out)).trans M1.out
        have hm1' := hm1
        have q0 := block_cell hm1 0
        have q1 := block_cell hm1 1
        have q2 := block_cell hm1 2
        have q3 := block_cell hm1 3
        have q4 := block_cell hm1 4
        have q5 := block_cell hm1 5
        have q6 := block_cell hm1 6
        have q7 := block_cell hm1 7
        have q8 := block_cell hm1 8
        have q9 := block_cell hm1 9
        have q10 := block_cell hm1 10
        clear hm1
        have hx2 : Below w2.heap.size w2 (w2.alloc (.cells #[.slice none 0 0, .slice none 0 0] 25)) := (Below.refl _ _).alloc (Nat.le_refl _) _
        have hm2 := (hx2.block _ (geB hm1')).trans hm1'
        have r0 := block_cell hm2 0
        have r1 := block_cell hm2 1
        have r2 := block_cell hm2 2
        have r3 := block_cell hm2 3
        have r4 := block_cell hm2 4
        have r5 := block_cell hm2 5
        have r6 := block_cell hm2 6
        have r7 := block_cell hm2 7
        have r8 := block_cell hm2 8
        have r9 := block_cell hm2 9
        have r10 := block_cell hm2 10
        clear hm2 hm1'
        have hdo := HDO.out _ _ ys w1.drew.heap.size w2 hs2 ho2 hb2'
        have hdo2 := HDO.out _ _ ys w1.drew.heap.size (w2.alloc (.cells #[.slice none 0 0, .slice none 0 0] 25)) (by simp; omega) (ho2.below hx2) (hb2'.trans (hx2.mono hb2'.size))
        have hordA : True := trivial)
     | (refine step_callx rfl 50 #[.agg #[.slice An g.nodes.length cn, .slice At g.ties.length ct]] (by kernel_rfl) hown2 ?_
        rintro e w2 ⟨un, ut, ys, rfl, ho2, hb2⟩
        refine ⟨_, rfl, ?_⟩
        have hb2' := hD.trans (hZ.trans (hb2.mono (by omega)))
        have hs2 := hb2.size
        have HO2 := Lib.hid ho2
        obtain ⟨A2, c2, rfl, _, _⟩ := ho2.n.form
        obtain ⟨A3, c3, rfl, _, _⟩ := ho2.t.form
        have hm1 := (hb2'.block _ (geB M1.out)).trans M1.out
        have hm1' := hm1
        have q0 := block_cell hm1 0
        have q1 := block_cell hm1 1
        have q2 := block_cell hm1 2
        have q3 := block_cell hm1 3
        have q4 := block_cell hm1 4
        have q5 := block_cell hm1 5
        have q6 := block_cell hm1 6
        have q7 := block_cell hm1 7
        have q8 := block_cell hm1 8
        have q9 := block_cell hm1 9
        have q10 := block_cell hm1 10
        clear hm1
        have hdo := HDO.out _ _ ys _ w2 hs2 ho2 hb2'
        have hordC : True := trivial)
     | (have _t := hordA
        refine step_callx rfl 49 #[.agg #[.slice A2 g.nodes.length c2, .slice A3 g.ties.length c3], .agg #[.int .i64 what, .int .i64 node.id, .string node.kind, .slice Ar node.props.length cr, .string prop.name, .int .i64 prop.v.ty, .int .i64 prop.v.n, .string prop.v.s, .string tie.bond, .int .i64 tie.src, .int .i64 tie.dst]] (by kernel_rfl) hdo ?_
        rintro e w3 ⟨un, ut, rfl, how, ⟨A4, n4, c4, A5, n5, c5, rfl, rfl⟩, hB3, hK3⟩
        refine ⟨_, rfl, ?_⟩
        have hks := hK3.s
        have hx3 : Below w3.heap.size w3 (w3.alloc (.cells #[.slice A4 n4 c4, .slice A5 n5 c5] 25)) := (Below.refl _ _).alloc (Nat.le_refl _) _
        have hN7 : (w3.alloc (.cells #[.slice A4 n4 c4, .slice A5 n5 c5] 25)).heap[w3.heap.size]? = some (.cells #[.slice A4 n4 c4, .slice A5 n5 c5] 25 (0, 0)) := heap_alloc_new _ _
        have hN2 : (w3.alloc (.cells #[.slice A4 n4 c4, .slice A5 n5 c5] 25)).heap[w.heap.size + 1 + 1]? = some (.cells #[.slice none 0 0, .slice none 0 0] 25 (0, 0)) := by
          rw [Below.heap_alloc _ _ _ (by omega)]
          exact (hB3.block _ (by omega)).trans ((hb2'.block _ (by omega)).trans M2.out)
        have how' : opE g ⟨what, node, prop, tie⟩ = 0 -> ∃ xs, OwnG (w3.alloc (.cells #[.slice A4 n4 c4, .slice A5 n5 c5] 25)) w1.heap.size (.slice A4 n4 c4) (.slice A5 n5 c5) (opG g ⟨what, node, prop, tie⟩) xs := fun h => by
          obtain ⟨zs, hz⟩ := how h
          exact ⟨zs, hz.below hx3⟩
        have hBW : Below w.heap.size w (w3.alloc (.cells #[.slice A4 n4 c4, .slice A5 n5 c5] 25)) := (hB1.trans ((hb2'.trans (hB3.mono (by omega))).mono hB1.size)).alloc (by omega) _
        have hb7s : w.heap.size + 1 + 1 < w3.heap.size := by omega
        have hfin := And.intro hN7 (And.intro hN2 (And.intro how' hBW))
        clear hordA hdo hdo2 hx3 how hK3 hB3 hBW how' hN7 hN2)
     | (have _t := hordA
        refine step_callx rfl 49 #[.agg #[.slice A2 g.nodes.length c2, .slice A3 g.ties.length c3], .agg #[.int .i64 what, .int .i64 node.id, .string node.kind, .slice Ar node.props.length cr, .string prop.name, .int .i64 prop.v.ty, .int .i64 prop.v.n, .string prop.v.s, .string tie.bond, .int .i64 tie.src, .int .i64 tie.dst]] (by kernel_rfl) hdo2 ?_
        rintro e w3 ⟨un, ut, rfl, how, ⟨A4, n4, c4, A5, n5, c5, rfl, rfl⟩, hB3, hK3⟩
        refine ⟨_, rfl, ?_⟩
        have hks := hK3.s
        have hxs : (w2.alloc (.cells #[.slice none 0 0, .slice none 0 0] 25)).heap.size = w2.heap.size + 1 := by simp
        have hN7 : w3.heap[w2.heap.size]? = some (.cells #[.slice none 0 0, .slice none 0 0] 25 (0, 0)) := (hK3.k w2.heap.size (by omega) (fun e => by have := (HO2.out.n.lt _ e.symm).2; omega) (fun e => by have := (HO2.out.t.lt _ e.symm).2; omega)).trans (heap_alloc_new _ _)
        have hN2 : w3.heap[w.heap.size + 1 + 1]? = some (.cells #[.slice none 0 0, .slice none 0 0] 25 (0, 0)) := by
          refine (hB3.block _ (by omega)).trans ?_
          rw [Below.heap_alloc _ _ _ (by omega)]
          exact (hb2'.block _ (by omega)).trans M2.out
        have how' : opE g ⟨what, node, prop, tie⟩ = 0 -> ∃ xs, OwnG w3 w1.heap.size (.slice A4 n4 c4) (.slice A5 n5 c5) (opG g ⟨what, node, prop, tie⟩) xs := how
        have hBW : Below w.heap.size w w3 := hB1.trans (((hb2'.alloc (by omega) _).trans (hB3.mono (by omega))).mono hB1.size)
        have hb7s : w.heap.size + 1 + 1 < w2.heap.size := by omega
        have a0 := block_free hN7 0
        have a1 := block_free hN7 1
        have a2 := block_cell hN7 0
        have a3 := block_cell hN7 1
        have hfin := cut_facts (g := opG g ⟨what, node, prop, tie⟩) (P := opE g ⟨what, node, prop, tie⟩ = 0) hN7 hN2 hb7s how' hBW (by omega)
        clear hordA hdo hdo2 how hK3 hB3 hBW how' hN7 hN2)
     | (have _t := hordC
        refine step_callx rfl 49 #[.agg #[.slice A2 g.nodes.length c2, .slice A3 g.ties.length c3], .agg #[.int .i64 what, .int .i64 node.id, .string node.kind, .slice Ar node.props.length cr, .string prop.name, .int .i64 prop.v.ty, .int .i64 prop.v.n, .string prop.v.s, .string tie.bond, .int .i64 tie.src, .int .i64 tie.dst]] (by kernel_rfl) hdo ?_
        rintro e w3 ⟨un, ut, rfl, how, ⟨A4, n4, c4, A5, n5, c5, rfl, rfl⟩, hB3, hK3⟩
        refine ⟨_, rfl, ?_⟩
        have hks := hK3.s
        have hN7 : w3.heap[w1.heap.size]? = some (.cells #[.slice none 0 0, .slice none 0 0] 25 (0, 0)) := (hB3.block _ (by omega)).trans ((hb2.block _ (by omega)).trans (heap_alloc_new w1.drew _))
        have hN2 : w3.heap[w.heap.size + 1 + 1]? = some (.cells #[.slice none 0 0, .slice none 0 0] 25 (0, 0)) := (hB3.block _ (by omega)).trans ((hb2'.block _ (by omega)).trans M2.out)
        have how' : opE g ⟨what, node, prop, tie⟩ = 0 -> ∃ xs, OwnG w3 w1.heap.size (.slice A4 n4 c4) (.slice A5 n5 c5) (opG g ⟨what, node, prop, tie⟩) xs := fun h => by
          obtain ⟨zs, hz⟩ := how h
          exact ⟨zs, hz.mono (by omega)⟩
        have hBW : Below w.heap.size w w3 := hB1.trans ((hb2'.trans (hB3.mono (by omega))).mono hB1.size)
        have hb7s : w.heap.size + 1 + 1 < w1.heap.size := by omega
        have a0 := block_free hN7 0
        have a1 := block_free hN7 1
        have a2 := block_cell hN7 0
        have a3 := block_cell hN7 1
        have hfin := cut_facts (g := opG g ⟨what, node, prop, tie⟩) (P := opE g ⟨what, node, prop, tie⟩ = 0) hN7 hN2 hb7s how' hBW (by omega)
        clear hordC hdo how hK3 hB3 hBW how' hN7 hN2))
  all_goals
   go_wp2_with fail
   go_meet
   exact ⟨_, _, _, _, _, _, _, rfl, rfl, hfin.1, hfin.2.1, hfin.2.2.1, hfin.2.2.2, hb7s⟩
 case rest =>
 obtain ⟨b7, A4, n4, c4, A5, n5, c5, rfl, rfl, hp7, hp2, hw4, hBW4, hb7s⟩ := hcut
 have HOW4 := Lib.hid hw4
 have p2 := hp2
 have z0 := block_cell hp7 0
 have z1 := block_cell hp7 1
 have a5 := block_free p2 0
 have a6 := block_free p2 1
 have a7 := block_cell p2 0
 have a8 := block_cell p2 1
 clear hp2 hp7 hw4
 by_cases hz : opE g ⟨what, node, prop, tie⟩ = 0
 ·have HEE : Hid (errV (doE g ⟨what, node, prop, tie⟩) = .nilIface /\ doG g ⟨what, node, prop, tie⟩ = opG g ⟨what, node, prop, tie⟩) := by
   have h0 : doE g ⟨what, node, prop, tie⟩ = 0 := by rw [HDE2.out]; exact hz
   exact ⟨by rw [h0]; rfl, by rw [HDG.out, if_pos h0]⟩
  obtain ⟨zs, hzs⟩ := HOW4.out hz
  rw [errV_zero hz]
  have p3 := setCell_block p2 0 (.slice A4 n4 c4)
  have p4 := setCell_block p3 1 (.slice A5 n5 c5)
  have HP4 := Lib.hid p4
  have HFIN : Hid (OwnG ((wc.setCell ⟨w.heap.size + 1 + 1, 0, none⟩ (.slice A4 n4 c4)).setCell ⟨w.heap.size + 1 + 1, 1, none⟩ (.slice A5 n5 c5)) w1.heap.size (.slice A4 n4 c4) (.slice A5 n5 c5) (opG g ⟨what, node, prop, tie⟩) zs) := by
   have hS5 : ∀ T, 25 ≠ T -> Same T wc ((wc.setCell ⟨w.heap.size + 1 + 1, 0, none⟩ (.slice A4 n4 c4)).setCell ⟨w.heap.size + 1 + 1, 1, none⟩ (.slice A5 n5 c5)) := fun T hT => (Same.setCell (p := ⟨w.heap.size + 1 + 1, 0, none⟩) p2 hT _).trans (Same.setCell (p := ⟨w.heap.size + 1 + 1, 1, none⟩) p3 hT _)
   exact hzs.same (hS5 _ (by decide)) (hS5 _ (by decide)) (hS5 _ (by decide))
  clear hz hzs p2 p3 p4 HOW4
  go_wp2_with fail
  have k2 := block_cell HP4.out 0
  have k3 := block_cell HP4.out 1
  exact bodyPost_ret (v := .tuple #[.agg #[.slice A4 n4 c4, .slice A5 n5 c5], .nilIface]) (by simp [results, Tryz.results9, go_sem, k2, k3]) rfl
   ⟨.slice A4 n4 c4, .slice A5 n5 c5, by rw [HEE.out.1], by rw [HEE.out.2]; exact ⟨_, HFIN.out.mono hB1.size⟩, (hBW4.setCell (p := ⟨w.heap.size + 1 + 1, 0, none⟩) (by show w.heap.size <= w.heap.size + 1 + 1; omega) _).setCell (p := ⟨w.heap.size + 1 + 1, 1, none⟩) (by show w.heap.size <= w.heap.size + 1 + 1; omega) _⟩
 have HEE : Hid (errV (doE g ⟨what, node, prop, tie⟩) = .iface 122 (.int .i64 (opE g ⟨what, node, prop, tie⟩)) /\ doG g ⟨what, node, prop, tie⟩ = ⟨[], []⟩) := by
  have h0 : doE g ⟨what, node, prop, tie⟩ = opE g ⟨what, node, prop, tie⟩ := HDE2.out
  exact ⟨by rw [h0]; exact errV_some hz, by rw [HDG.out, h0, if_neg hz]⟩
 rw [errV_some hz]
 have p4 := setCell_block (setCell_block p2 0 (.slice none 0 0)) 1 (.slice none 0 0)
 have HP4 := Lib.hid p4
 clear hz p2 p4 HOW4
 go_wp2_with fail
 have k2 := block_cell HP4.out 0
 have k3 := block_cell HP4.out 1
 exact bodyPost_ret (v := .tuple #[.agg #[.slice none 0 0, .slice none 0 0], .iface 122 (.int .i64 (opE g ⟨what, node, prop, tie⟩))]) (by simp [results, Tryz.results9, go_sem, k2, k3]) rfl
  ⟨.slice none 0 0, .slice none 0 0, by rw [HEE.out.1], by rw [HEE.out.2]; exact ⟨[], OwnG.nil⟩, (hBW4.setCell (p := ⟨w.heap.size + 1 + 1, 0, none⟩) (by show w.heap.size <= w.heap.size + 1 + 1; omega) _).setCell (p := ⟨w.heap.size + 1 + 1, 1, none⟩) (by show w.heap.size <= w.heap.size + 1 + 1; omega) _⟩
/-! ### Rows in one strict order -/
section
variable {D : Type} {R : D -> D -> Prop}
theorem pw_ext (tr : ∀ a b c, R a b -> R b c -> R a c) (ir : ∀ a, ¬ R a a) : ∀ {l m : List D}, l.Pairwise R -> m.Pairwise R -> (∀ x, x ∈ l ↔ x ∈ m) -> l = m
 | [], [], _, _, _ => rfl
 | [], y :: ys, _, _, h => by have := (h y).2 (by simp); simp at this
 | x :: xs, [], _, _, h => by have := (h x).1 (by simp); simp at this
 | x :: xs, y :: ys, hl, hm, h => by
  obtain ⟨l1, l2⟩ := List.pairwise_cons.1 hl
  obtain ⟨m1, m2⟩ := List.pairwise_cons.1 hm
  have hxy : x = y := by
   rcases List.mem_cons.1 ((h x).1 (by simp)) with e | h1
   ·exact e
   rcases List.mem_cons.1 ((h y).2 (by simp)) with e | h2
   ·exact e.symm
   exact absurd (tr _ _ _ (l1 y h2) (m1 x h1)) (ir x)
  subst hxy
  congr 1
  refine pw_ext tr ir l2 m2 fun z => ?_
  constructor
  ·intro hz
   rcases List.mem_cons.1 ((h z).1 (by simp [hz])) with e | h1
   ·subst e; exact absurd (l1 z hz) (ir z)
   exact h1
  intro hz
  rcases List.mem_cons.1 ((h z).2 (by simp [hz])) with e | h1
  ·subst e; exact absurd (m1 z hz) (ir z)
  exact h1
end
theorem tieLt_ir : ∀ a, ¬ tieLt a a = true := by
 intro a h
 unfold tieLt at h
 have h1 := of_decide_eq_true h
 have := (tieO_zero (a := a) (b := a)).2 rfl
 omega
theorem ties_pw {g : Grf} (h : grfE g = 0) : g.ties.Pairwise fun a b => tieLt a b = true := (chain_pw tieLt_tr).1 (grf_ties h).1
/-! ### What is there, by name -/
theorem rhas_mem {r : List Prp} (h : recE r = 0) (nm : ByteArray) : rhas r nm = true ↔ ∃ p ∈ r, p.name = nm := by
 constructor
 ·intro hh
  obtain ⟨p, hp⟩ := rhas_some hh
  refine ⟨p, List.mem_of_getElem? hp, ?_⟩
  unfold rhas eqAt at hh
  rw [hp] at hh
  have : prpC nm p = 0 := by simpa using hh
  exact cmpS_zero.1 this
 rintro ⟨p, hp, rfl⟩
 cases hq : rhas r p.name with
 | true => rfl
 | false =>
  obtain ⟨b1, b2⟩ := low_parts (c := prpC p.name) (rec_ok h).2.2 (prpC_mono p.name) hq (prp_hz p.name)
  have h0 : prpC p.name p = 0 := cmpS_zero.2 rfl
  rw [<- List.take_append_drop (lowI (prpC p.name) r) r] at hp
  rcases List.mem_append.1 hp with hm | hm
  ·have := b1 p hm; omega
  have := b2 p hm; omega
/-! ### Records, as sets -/
theorem op_kinds {g : Grf} {o : Opr} (h : opE g o = 0) : o.what = 1 \/ o.what = 2 \/ o.what = 3 \/ o.what = 4 \/ o.what = 5 \/ o.what = 6 := by
 by_cases h1 : o.what = 1; · exact .inl h1
 by_cases h2 : o.what = 2; · exact .inr (.inl h2)
 by_cases h3 : o.what = 3; · exact .inr (.inr (.inl h3))
 by_cases h4 : o.what = 4; · exact .inr (.inr (.inr (.inl h4)))
 by_cases h5 : o.what = 5; · exact .inr (.inr (.inr (.inr (.inl h5))))
 by_cases h6 : o.what = 6; · exact .inr (.inr (.inr (.inr (.inr h6))))
 unfold opE at h
 rw [if_neg h1, if_neg h2, if_neg h3, if_neg h4, if_neg h5, if_neg h6] at h
 cases h
end Go.Proofs.YtngbbefpphinjaaGreatDoor
