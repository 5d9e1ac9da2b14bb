/- Parts: DelAll, DbP, DbQ, GnP. -/
import Derived.Test.YtkegnmclhkpbkaaGreatMg10
import Derived.Deep.DeepCutAuto
import Derived.Test.YtkegnmclhkpbkaaGreatMg11
/- Contract: delta.Do. -/
namespace Go.Proofs.YtkegnmclhkpbkaaGreat
open Go Go.RowKit

/-- A graph of the call's own, and an error. -/
def RetGO (g : Grf) (err : Int) (w : World) (e : Ending) (w' : World) : Prop := ∃ vn vt, e = .returned (.tuple #[.agg #[vn, vt], errV err]) ∧ (∃ xs, OwnG w' w.heap.size vn vt g xs) ∧ Below w.heap.size w w'
theorem RetGO.r {g : Grf} {err : Int} {w w' : World} {e : Ending} (h : RetGO g err w e w') : RetG g err w e w' := by
  obtain ⟨vn, vt, h1, ⟨xs, h2⟩, h3⟩ := h
  exact ⟨vn, vt, h1, h2.r, h3⟩
/-- A right graph, where it lies, can be owned and worked on. -/
theorem grf_work {g : Grf} (h : grfE g = 0) : chain nodLt g.nodes = true ∧ chain tieLt g.ties = true ∧ g.nodes.length ≤ 60 ∧ g.ties.length ≤ 120 ∧ ∀ d ∈ g.nodes, d.props.length ≤ 1000 := by
  obtain ⟨h1, h2, h3, h4⟩ := grf_ok h
  exact ⟨h3, (grf_ties h).1, h1, h2, fun d hd => by have := (rec_ok (nod_rec' (h4 d hd).2)).1; omega⟩
theorem cut_facts {w W3 : World} {B b7 b2 : Nat} {A4 A5 : Option Addr} {n4 c4 n5 c5 : Nat} {g : Grf} {P : Prop} (hN7 : W3.heap[b7]? = some (.cells #[.slice none 0 0, .slice none 0 0] 29 (0, 0))) (hN2 : W3.heap[b2]? = some (.cells #[.slice none 0 0, .slice none 0 0] 29 (0, 0)))
    (hlt : b2 < b7) (how : P → ∃ xs, OwnG W3 B (.slice A4 n4 c4) (.slice A5 n5 c5) g xs) (hB : Below w.heap.size w W3) (hb : w.heap.size ≤ b2) :
    ((W3.setCell ⟨b7, 0, none⟩ (.slice A4 n4 c4)).setCell ⟨b7, 1, none⟩ (.slice A5 n5 c5)).heap[b7]? = some (.cells #[.slice A4 n4 c4, .slice A5 n5 c5] 29 (0, 0)) ∧
    ((W3.setCell ⟨b7, 0, none⟩ (.slice A4 n4 c4)).setCell ⟨b7, 1, none⟩ (.slice A5 n5 c5)).heap[b2]? = some (.cells #[.slice none 0 0, .slice none 0 0] 29 (0, 0)) ∧
    (P → ∃ xs, OwnG ((W3.setCell ⟨b7, 0, none⟩ (.slice A4 n4 c4)).setCell ⟨b7, 1, none⟩ (.slice A5 n5 c5)) B (.slice A4 n4 c4) (.slice A5 n5 c5) g xs) ∧
    Below w.heap.size w ((W3.setCell ⟨b7, 0, none⟩ (.slice A4 n4 c4)).setCell ⟨b7, 1, none⟩ (.slice A5 n5 c5)) := by
  have p7 := setCell_block (setCell_block hN7 0 (.slice A4 n4 c4)) 1 (.slice A5 n5 c5)
  refine ⟨p7, ?_, fun h => ?_, (hB.setCell (p := ⟨b7, 0, none⟩) (by show w.heap.size ≤ b7; omega) _).setCell (p := ⟨b7, 1, none⟩) (by show w.heap.size ≤ b7; omega) _⟩
  · rw [Below.heap_setCell _ _ _ _ (by show b2 ≠ b7; omega), Below.heap_setCell _ _ _ _ (by show b2 ≠ b7; omega)]; exact hN2
  · obtain ⟨zs, hz⟩ := how h
    have hS4 : ∀ T, 29 ≠ T → Same T W3 ((W3.setCell ⟨b7, 0, none⟩ (.slice A4 n4 c4)).setCell ⟨b7, 1, none⟩ (.slice A5 n5 c5)) := fun T hT => (Same.setCell (p := ⟨b7, 0, none⟩) hN7 hT _).trans (Same.setCell (p := ⟨b7, 1, none⟩) (setCell_block hN7 0 _) hT _)
    exact ⟨zs, hz.same (hS4 _ (by decide)) (hS4 _ (by decide)) (hS4 _ (by decide))⟩
set_option maxRecDepth 100000 in
set_option maxHeartbeats 16000000 in
theorem Do_own (g : Grf) (o : Opr) (vn vt vr : Value) (w : World) (hG : GrfR w vn vt g) (hO : OprR w vr o) :
    Calls Tryz.prog 12 #[.agg #[vn, vt], .agg (oprCells o vr)] w (RetGO (doG g o) (doE g o) w) := by
  obtain ⟨An, cn, rfl, _, _⟩ := hG.1.form
  obtain ⟨At, ct, rfl, _, _⟩ := hG.2.form
  obtain ⟨Ar, cr, rfl, _, _⟩ := hO.r.form
  have HDE : Hid (doE g o = if grfE g = 0 then opE g o else grfE g) := rfl
  have HDG : Hid (doG g o = if doE g o = 0 then opG g o else ⟨[], []⟩) := rfl
  obtain ⟨what, node, prop, tie⟩ := o
  have hO' : OprR w (.slice Ar node.props.length cr) ⟨what, node, prop, tie⟩ := hO
  clear hO
  show Calls Tryz.prog 12 #[.agg #[.slice An g.nodes.length cn, .slice At g.ties.length ct], .agg #[.int .i64 what, .int .i64 node.id, .string node.kind, .slice Ar node.props.length cr, .string prop.name, .int .i64 prop.v.ty, .int .i64 prop.v.n, .string prop.v.s, .string tie.bond, .int .i64 tie.src, .int .i64 tie.dst]] w _
  obtain ⟨W0, hW0⟩ : ∃ W0, W0 = (((w.alloc (.cells #[.slice An g.nodes.length cn, .slice At g.ties.length ct] 29)).alloc (.cells #[.int .i64 what, .int .i64 node.id, .string node.kind, .slice Ar node.props.length cr, .string prop.name, .int .i64 prop.v.ty, .int .i64 prop.v.n, .string prop.v.s, .string tie.bond, .int .i64 tie.src, .int .i64 tie.dst] 47)).alloc (.cells #[.slice none 0 0, .slice none 0 0] 29)) := ⟨_, rfl⟩
  have hb0 : Below w.heap.size w W0 := by rw [hW0]; exact (((Below.refl _ _).alloc (Nat.le_refl _) _).alloc (by simp) _).alloc (by simp; omega) _
  have g0 : W0.heap[w.heap.size]? = some (.cells #[.slice An g.nodes.length cn, .slice At g.ties.length ct] 29 (0, 0)) := by
    rw [hW0, Below.heap_alloc _ _ _ (by simp; omega), Below.heap_alloc _ _ _ (by simp)]; exact heap_alloc_new _ _
  have g1 : W0.heap[w.heap.size + 1]? = some (.cells #[.int .i64 what, .int .i64 node.id, .string node.kind, .slice Ar node.props.length cr, .string prop.name, .int .i64 prop.v.ty, .int .i64 prop.v.n, .string prop.v.s, .string tie.bond, .int .i64 tie.src, .int .i64 tie.dst] 47 (0, 0)) := by
    rw [hW0, Below.heap_alloc _ _ _ (by simp)]
    have := heap_alloc_new (w.alloc (.cells #[.slice An g.nodes.length cn, .slice At g.ties.length ct] 29)) (.cells #[.int .i64 what, .int .i64 node.id, .string node.kind, .slice Ar node.props.length cr, .string prop.name, .int .i64 prop.v.ty, .int .i64 prop.v.n, .string prop.v.s, .string tie.bond, .int .i64 tie.src, .int .i64 tie.dst] 47); simpa using this
  have g2 : W0.heap[w.heap.size + 1 + 1]? = some (.cells #[.slice none 0 0, .slice none 0 0] 29 (0, 0)) := by
    have := heap_alloc_new ((w.alloc (.cells #[.slice An g.nodes.length cn, .slice At g.ties.length ct] 29)).alloc (.cells #[.int .i64 what, .int .i64 node.id, .string node.kind, .slice Ar node.props.length cr, .string prop.name, .int .i64 prop.v.ty, .int .i64 prop.v.n, .string prop.v.s, .string tie.bond, .int .i64 tie.src, .int .i64 tie.dst] 47)) (.cells #[.slice none 0 0, .slice none 0 0] 29); rw [hW0]; simpa using this
  have hsz : W0.heap.size = w.heap.size + 3 := by rw [hW0]; simp
  have hW0' := hW0.symm
  have HG := Lib.hid (hG.below hb0)
  have HO := Lib.hid (hO'.below hb0)
  have hck := grfCheck_any g _ _ W0 (hG.below hb0)
  have x0 := block_cell g0 0
  have x1 := block_cell g0 1
  clear hG hO' hW0
  go_enter Tryz.func12, Tryz.ntmps12
  go_wp2_with fail
  refine hck.mono ?_
  clear hck
  rintro e w1 ⟨rfl, hb1⟩
  have hB1 := hb0.trans (hb1.mono hb0.size)
  have m0 := (hb1.block _ (Array.getElem?_eq_some_iff.1 g0).1).trans g0
  have m1 := (hb1.block _ (Array.getElem?_eq_some_iff.1 g1).1).trans g1
  have m2 := (hb1.block _ (Array.getElem?_eq_some_iff.1 g2).1).trans g2
  have hs1 := hb1.size
  clear g0 g1 g2 x0 x1
  by_cases he : grfE g = 0
  case neg =>
    have HEE : Hid (errV (doE g ⟨what, node, prop, tie⟩) = .iface 69 (.int .i64 (grfE g)) ∧ doG g ⟨what, node, prop, tie⟩ = ⟨[], []⟩) := by
      have h0 : doE g ⟨what, node, prop, tie⟩ = grfE g := by rw [HDE.out, if_neg he]
      exact ⟨by rw [h0]; exact errV_some he, by rw [HDG.out, h0, if_neg he]⟩
    rw [errV_some he]
    clear he HDE HDG
    have a5 := block_free m2 0
    have a6 := block_free m2 1
    have a7 := block_cell m2 0
    have a8 := block_cell m2 1
    have p4 := setCell_block (setCell_block m2 0 (.slice none 0 0)) 1 (.slice none 0 0)
    have HP4 := Lib.hid p4
    clear p4 m0 m1 m2
    go_wp2_with fail
    have k2 := block_cell HP4.out 0
    have k3 := block_cell HP4.out 1
    exact bodyPost_ret (v := .tuple #[.agg #[.slice none 0 0, .slice none 0 0], .iface 69 (.int .i64 (grfE g))]) (by simp [results, Tryz.results12, go_sem, k2, k3]) rfl
      ⟨.slice none 0 0, .slice none 0 0, by rw [HEE.out.1], by rw [HEE.out.2]; exact ⟨[], OwnG.nil⟩, (hB1.setCell (p := ⟨w.heap.size + 1 + 1, 0, none⟩) (by show w.heap.size ≤ w.heap.size + 1 + 1; omega) _).setCell (p := ⟨w.heap.size + 1 + 1, 1, none⟩) (by show w.heap.size ≤ w.heap.size + 1 + 1; omega) _⟩
  obtain ⟨k1, k2, k3, k4, k5⟩ := grf_work he
  have HDE2 : Hid (doE g ⟨what, node, prop, tie⟩ = opE g ⟨what, node, prop, tie⟩) := by unfold Hid; rw [HDE.out, if_pos he]
  rw [errV_zero he]
  have x0 := block_cell m0 0
  have x1 := block_cell m0 1
  have y0 := block_cell m1 0
  have y1 := block_cell m1 1
  have y2 := block_cell m1 2
  have y3 := block_cell m1 3
  have y4 := block_cell m1 4
  have y5 := block_cell m1 5
  have y6 := block_cell m1 6
  have y7 := block_cell m1 7
  have y8 := block_cell m1 8
  have y9 := block_cell m1 9
  have y10 := block_cell m1 10
  have hZ : Below w1.drew.heap.size w1.drew (w1.alloc (.cells #[.slice none 0 0, .slice none 0 0] 29)).drew := ((Below.refl w1.drew.heap.size w1.drew).alloc (Nat.le_refl _) (.cells #[.slice none 0 0, .slice none 0 0] 29) : Below w1.drew.heap.size w1.drew (w1.drew.alloc (.cells #[.slice none 0 0, .slice none 0 0] 29)))
  have hD : Below w1.heap.size w1 w1.drew := (Below.refl _ _).drew
  have hown := own_any g _ _ w1.drew ((HG.out.below hb1).below hD) (by omega) (by omega) k5
  have hown2 := own_any g _ _ ((w1.alloc (.cells #[.slice none 0 0, .slice none 0 0] 29)).drew) (((HG.out.below hb1).below hD).below hZ) (by omega) (by omega) k5
  have HO1 := Lib.hid (HO.out.below hb1)
  have m3 : (w1.alloc (.cells #[.slice none 0 0, .slice none 0 0] 29)).heap[w.heap.size + 1]? = _ := (hZ.block _ (Array.getElem?_eq_some_iff.1 m1).1).trans m1
  have s0 := block_cell m3 0
  have s1 := block_cell m3 1
  have s2 := block_cell m3 2
  have s3 := block_cell m3 3
  have s4 := block_cell m3 4
  have s5 := block_cell m3 5
  have s6 := block_cell m3 6
  have s7 := block_cell m3 7
  have s8 := block_cell m3 8
  have s9 := block_cell m3 9
  have s10 := block_cell m3 10
  have m4 : (w1.alloc (.cells #[.slice none 0 0, .slice none 0 0] 29)).heap[w.heap.size]? = _ := (hZ.block _ (Array.getElem?_eq_some_iff.1 m0).1).trans m0
  have t0 := block_cell m4 0
  have t1 := block_cell m4 1
  clear m3 m4
  have M1 := Lib.hid m1
  have M2 := Lib.hid m2
  have hzs : (w1.alloc (.cells #[.slice none 0 0, .slice none 0 0] 29)).drew.heap.size = w1.heap.size + 1 := by show (w1.alloc (.cells #[.slice none 0 0, .slice none 0 0] 29)).heap.size = w1.heap.size + 1; simp
  have hds : w1.drew.heap.size = w1.heap.size := rfl
  have HDO : Hid (∀ (un ut : Value) (ys : List Value) (B : Nat) (W : World), B ≤ W.heap.size → OwnG W B un ut g ys → Below w1.heap.size w1 W →
      Calls Tryz.prog 17 #[.agg #[un, ut], .agg #[.int .i64 what, .int .i64 node.id, .string node.kind, .slice Ar node.props.length cr, .string prop.name, .int .i64 prop.v.ty, .int .i64 prop.v.n, .string prop.v.s, .string tie.bond, .int .i64 tie.src, .int .i64 tie.dst]] W (RetOG B un ut (opG g ⟨what, node, prop, tie⟩) (opE g ⟨what, node, prop, tie⟩) W)) :=
    fun un ut ys B W h1 h2 h3 => do_any g ⟨what, node, prop, tie⟩ un ut (.slice Ar node.props.length cr) ys B W h1 h2 (HO1.out.below h3) k1 k2 (by omega) (by omega)
  clear he m0 m1 m2 HDE
  go_upto_region 4 with fail
  go_cut [7, 8] (fun p z wx => ∃ (b7 : Nat) (A4 : Option Addr) (n4 c4 : Nat) (A5 : Option Addr) (n5 c5 : Nat), p = .pointer (some ⟨b7, 0, none⟩) ∧ z = errV (opE g ⟨what, node, prop, tie⟩) ∧ wx.heap[b7]? = some (.cells #[.slice A4 n4 c4, .slice A5 n5 c5] 29 (0, 0)) ∧
    wx.heap[w.heap.size + 1 + 1]? = some (.cells #[.slice none 0 0, .slice none 0 0] 29 (0, 0)) ∧ (opE g ⟨what, node, prop, tie⟩ = 0 → ∃ xs, OwnG wx w1.heap.size (.slice A4 n4 c4) (.slice A5 n5 c5) (opG g ⟨what, node, prop, tie⟩) xs) ∧ Below w.heap.size w wx ∧ w.heap.size + 1 + 1 < b7)
  case first =>
    go_region_law
      (first
        | (refine step_callx rfl 16 #[.agg #[.slice An g.nodes.length cn, .slice At g.ties.length ct]] (by kernel_rfl) hown ?_
           rintro e w2 ⟨un, ut, ys, rfl, ho2, hb2⟩
           refine ⟨_, rfl, ?_⟩
           have hb2' := hD.trans hb2
           have hs2 := hb2.size
           have HO2 := Lib.hid ho2
           obtain ⟨A2, c2, rfl, _, _⟩ := ho2.n.form
           obtain ⟨A3, c3, rfl, _, _⟩ := ho2.t.form
           have hm1 := (hb2'.block _ (Array.getElem?_eq_some_iff.1 M1.out).1).trans M1.out
           have hm1' := hm1
           have q0 := block_cell hm1 0
           have q1 := block_cell hm1 1
           have q2 := block_cell hm1 2
           have q3 := block_cell hm1 3
           have q4 := block_cell hm1 4
           have q5 := block_cell hm1 5
           have q6 := block_cell hm1 6
           have q7 := block_cell hm1 7
           have q8 := block_cell hm1 8
           have q9 := block_cell hm1 9
           have q10 := block_cell hm1 10
           clear hm1
           have hx2 : Below w2.heap.size w2 (w2.alloc (.cells #[.slice none 0 0, .slice none 0 0] 29)) := (Below.refl _ _).alloc (Nat.le_refl _) _
           have hm2 := (hx2.block _ (Array.getElem?_eq_some_iff.1 hm1').1).trans hm1'
           have r0 := block_cell hm2 0
           have r1 := block_cell hm2 1
           have r2 := block_cell hm2 2
           have r3 := block_cell hm2 3
           have r4 := block_cell hm2 4
           have r5 := block_cell hm2 5
           have r6 := block_cell hm2 6
           have r7 := block_cell hm2 7
           have r8 := block_cell hm2 8
           have r9 := block_cell hm2 9
           have r10 := block_cell hm2 10
           clear hm2 hm1'
           have hdo := HDO.out _ _ ys w1.drew.heap.size w2 hs2 ho2 hb2'
           have hdo2 := HDO.out _ _ ys w1.drew.heap.size (w2.alloc (.cells #[.slice none 0 0, .slice none 0 0] 29)) (by simp; omega) (ho2.below hx2) (hb2'.trans (hx2.mono hb2'.size))
           have hordA : True := trivial)
        | (refine step_callx rfl 16 #[.agg #[.slice An g.nodes.length cn, .slice At g.ties.length ct]] (by kernel_rfl) hown2 ?_
           rintro e w2 ⟨un, ut, ys, rfl, ho2, hb2⟩
           refine ⟨_, rfl, ?_⟩
           have hb2' := hD.trans (hZ.trans (hb2.mono (by omega)))
           have hs2 := hb2.size
           have HO2 := Lib.hid ho2
           obtain ⟨A2, c2, rfl, _, _⟩ := ho2.n.form
           obtain ⟨A3, c3, rfl, _, _⟩ := ho2.t.form
           have hm1 := (hb2'.block _ (Array.getElem?_eq_some_iff.1 M1.out).1).trans M1.out
           have hm1' := hm1
           have q0 := block_cell hm1 0
           have q1 := block_cell hm1 1
           have q2 := block_cell hm1 2
           have q3 := block_cell hm1 3
           have q4 := block_cell hm1 4
           have q5 := block_cell hm1 5
           have q6 := block_cell hm1 6
           have q7 := block_cell hm1 7
           have q8 := block_cell hm1 8
           have q9 := block_cell hm1 9
           have q10 := block_cell hm1 10
           clear hm1
           have hdo := HDO.out _ _ ys _ w2 hs2 ho2 hb2'
           have hordC : True := trivial)
        | (have _t := hordA
           refine step_callx rfl 17 #[.agg #[.slice A2 g.nodes.length c2, .slice A3 g.ties.length c3], .agg #[.int .i64 what, .int .i64 node.id, .string node.kind, .slice Ar node.props.length cr, .string prop.name, .int .i64 prop.v.ty, .int .i64 prop.v.n, .string prop.v.s, .string tie.bond, .int .i64 tie.src, .int .i64 tie.dst]] (by kernel_rfl) hdo ?_
           rintro e w3 ⟨un, ut, rfl, how, ⟨A4, n4, c4, A5, n5, c5, rfl, rfl⟩, hB3, hK3⟩
           refine ⟨_, rfl, ?_⟩
           have hks := hK3.s
           have hx3 : Below w3.heap.size w3 (w3.alloc (.cells #[.slice A4 n4 c4, .slice A5 n5 c5] 29)) := (Below.refl _ _).alloc (Nat.le_refl _) _
           have hN7 : (w3.alloc (.cells #[.slice A4 n4 c4, .slice A5 n5 c5] 29)).heap[w3.heap.size]? = some (.cells #[.slice A4 n4 c4, .slice A5 n5 c5] 29 (0, 0)) := heap_alloc_new _ _
           have hN2 : (w3.alloc (.cells #[.slice A4 n4 c4, .slice A5 n5 c5] 29)).heap[w.heap.size + 1 + 1]? = some (.cells #[.slice none 0 0, .slice none 0 0] 29 (0, 0)) := by
             rw [Below.heap_alloc _ _ _ (by omega)]
             exact (hB3.block _ (by omega)).trans ((hb2'.block _ (by omega)).trans M2.out)
           have how' : opE g ⟨what, node, prop, tie⟩ = 0 → ∃ xs, OwnG (w3.alloc (.cells #[.slice A4 n4 c4, .slice A5 n5 c5] 29)) w1.heap.size (.slice A4 n4 c4) (.slice A5 n5 c5) (opG g ⟨what, node, prop, tie⟩) xs := fun h => by
             obtain ⟨zs, hz⟩ := how h
             exact ⟨zs, hz.below hx3⟩
           have hBW : Below w.heap.size w (w3.alloc (.cells #[.slice A4 n4 c4, .slice A5 n5 c5] 29)) := (hB1.trans ((hb2'.trans (hB3.mono (by omega))).mono hB1.size)).alloc (by omega) _
           have hb7s : w.heap.size + 1 + 1 < w3.heap.size := by omega
           have hfin := And.intro hN7 (And.intro hN2 (And.intro how' hBW))
           clear hordA hdo hdo2 hx3 how hK3 hB3 hBW how' hN7 hN2)
        | (have _t := hordA
           refine step_callx rfl 17 #[.agg #[.slice A2 g.nodes.length c2, .slice A3 g.ties.length c3], .agg #[.int .i64 what, .int .i64 node.id, .string node.kind, .slice Ar node.props.length cr, .string prop.name, .int .i64 prop.v.ty, .int .i64 prop.v.n, .string prop.v.s, .string tie.bond, .int .i64 tie.src, .int .i64 tie.dst]] (by kernel_rfl) hdo2 ?_
           rintro e w3 ⟨un, ut, rfl, how, ⟨A4, n4, c4, A5, n5, c5, rfl, rfl⟩, hB3, hK3⟩
           refine ⟨_, rfl, ?_⟩
           have hks := hK3.s
           have hxs : (w2.alloc (.cells #[.slice none 0 0, .slice none 0 0] 29)).heap.size = w2.heap.size + 1 := by simp
           have hN7 : w3.heap[w2.heap.size]? = some (.cells #[.slice none 0 0, .slice none 0 0] 29 (0, 0)) := (hK3.k w2.heap.size (by omega) (fun e => by have := (HO2.out.n.lt _ e.symm).2; omega) (fun e => by have := (HO2.out.t.lt _ e.symm).2; omega)).trans (heap_alloc_new _ _)
           have hN2 : w3.heap[w.heap.size + 1 + 1]? = some (.cells #[.slice none 0 0, .slice none 0 0] 29 (0, 0)) := by
             refine (hB3.block _ (by omega)).trans ?_
             rw [Below.heap_alloc _ _ _ (by omega)]
             exact (hb2'.block _ (by omega)).trans M2.out
           have how' : opE g ⟨what, node, prop, tie⟩ = 0 → ∃ xs, OwnG w3 w1.heap.size (.slice A4 n4 c4) (.slice A5 n5 c5) (opG g ⟨what, node, prop, tie⟩) xs := how
           have hBW : Below w.heap.size w w3 := hB1.trans (((hb2'.alloc (by omega) _).trans (hB3.mono (by omega))).mono hB1.size)
           have hb7s : w.heap.size + 1 + 1 < w2.heap.size := by omega
           have a0 := block_free hN7 0
           have a1 := block_free hN7 1
           have a2 := block_cell hN7 0
           have a3 := block_cell hN7 1
           have hfin := cut_facts (g := opG g ⟨what, node, prop, tie⟩) (P := opE g ⟨what, node, prop, tie⟩ = 0) hN7 hN2 hb7s how' hBW (by omega)
           clear hordA hdo hdo2 how hK3 hB3 hBW how' hN7 hN2)
        | (have _t := hordC
           refine step_callx rfl 17 #[.agg #[.slice A2 g.nodes.length c2, .slice A3 g.ties.length c3], .agg #[.int .i64 what, .int .i64 node.id, .string node.kind, .slice Ar node.props.length cr, .string prop.name, .int .i64 prop.v.ty, .int .i64 prop.v.n, .string prop.v.s, .string tie.bond, .int .i64 tie.src, .int .i64 tie.dst]] (by kernel_rfl) hdo ?_
           rintro e w3 ⟨un, ut, rfl, how, ⟨A4, n4, c4, A5, n5, c5, rfl, rfl⟩, hB3, hK3⟩
           refine ⟨_, rfl, ?_⟩
           have hks := hK3.s
           have hN7 : w3.heap[w1.heap.size]? = some (.cells #[.slice none 0 0, .slice none 0 0] 29 (0, 0)) := (hB3.block _ (by omega)).trans ((hb2.block _ (by omega)).trans (heap_alloc_new w1.drew _))
           have hN2 : w3.heap[w.heap.size + 1 + 1]? = some (.cells #[.slice none 0 0, .slice none 0 0] 29 (0, 0)) := (hB3.block _ (by omega)).trans ((hb2'.block _ (by omega)).trans M2.out)
           have how' : opE g ⟨what, node, prop, tie⟩ = 0 → ∃ xs, OwnG w3 w1.heap.size (.slice A4 n4 c4) (.slice A5 n5 c5) (opG g ⟨what, node, prop, tie⟩) xs := fun h => by
             obtain ⟨zs, hz⟩ := how h
             exact ⟨zs, hz.mono (by omega)⟩
           have hBW : Below w.heap.size w w3 := hB1.trans ((hb2'.trans (hB3.mono (by omega))).mono hB1.size)
           have hb7s : w.heap.size + 1 + 1 < w1.heap.size := by omega
           have a0 := block_free hN7 0
           have a1 := block_free hN7 1
           have a2 := block_cell hN7 0
           have a3 := block_cell hN7 1
           have hfin := cut_facts (g := opG g ⟨what, node, prop, tie⟩) (P := opE g ⟨what, node, prop, tie⟩ = 0) hN7 hN2 hb7s how' hBW (by omega)
           clear hordC hdo how hK3 hB3 hBW how' hN7 hN2))
    all_goals
      go_wp2_with fail
      go_meet
      exact ⟨_, _, _, _, _, _, _, rfl, rfl, hfin.1, hfin.2.1, hfin.2.2.1, hfin.2.2.2, hb7s⟩
  case rest =>
  obtain ⟨b7, A4, n4, c4, A5, n5, c5, rfl, rfl, hp7, hp2, hw4, hBW4, hb7s⟩ := hcut
  have HOW4 := Lib.hid hw4
  have p2 := hp2
  have z0 := block_cell hp7 0
  have z1 := block_cell hp7 1
  have a5 := block_free p2 0
  have a6 := block_free p2 1
  have a7 := block_cell p2 0
  have a8 := block_cell p2 1
  clear hp2 hp7 hw4
  by_cases hz : opE g ⟨what, node, prop, tie⟩ = 0
  · have HEE : Hid (errV (doE g ⟨what, node, prop, tie⟩) = .nilIface ∧ doG g ⟨what, node, prop, tie⟩ = opG g ⟨what, node, prop, tie⟩) := by
      have h0 : doE g ⟨what, node, prop, tie⟩ = 0 := by rw [HDE2.out]; exact hz
      exact ⟨by rw [h0]; rfl, by rw [HDG.out, if_pos h0]⟩
    obtain ⟨zs, hzs⟩ := HOW4.out hz
    rw [errV_zero hz]
    have p3 := setCell_block p2 0 (.slice A4 n4 c4)
    have p4 := setCell_block p3 1 (.slice A5 n5 c5)
    have HP4 := Lib.hid p4
    have HFIN : Hid (OwnG ((wc.setCell ⟨w.heap.size + 1 + 1, 0, none⟩ (.slice A4 n4 c4)).setCell ⟨w.heap.size + 1 + 1, 1, none⟩ (.slice A5 n5 c5)) w1.heap.size (.slice A4 n4 c4) (.slice A5 n5 c5) (opG g ⟨what, node, prop, tie⟩) zs) := by
      have hS5 : ∀ T, 29 ≠ T → Same T wc ((wc.setCell ⟨w.heap.size + 1 + 1, 0, none⟩ (.slice A4 n4 c4)).setCell ⟨w.heap.size + 1 + 1, 1, none⟩ (.slice A5 n5 c5)) := fun T hT => (Same.setCell (p := ⟨w.heap.size + 1 + 1, 0, none⟩) p2 hT _).trans (Same.setCell (p := ⟨w.heap.size + 1 + 1, 1, none⟩) p3 hT _)
      exact hzs.same (hS5 _ (by decide)) (hS5 _ (by decide)) (hS5 _ (by decide))
    clear hz hzs p2 p3 p4 HOW4
    go_wp2_with fail
    have k2 := block_cell HP4.out 0
    have k3 := block_cell HP4.out 1
    exact bodyPost_ret (v := .tuple #[.agg #[.slice A4 n4 c4, .slice A5 n5 c5], .nilIface]) (by simp [results, Tryz.results12, go_sem, k2, k3]) rfl
      ⟨.slice A4 n4 c4, .slice A5 n5 c5, by rw [HEE.out.1], by rw [HEE.out.2]; exact ⟨_, HFIN.out.mono hB1.size⟩, (hBW4.setCell (p := ⟨w.heap.size + 1 + 1, 0, none⟩) (by show w.heap.size ≤ w.heap.size + 1 + 1; omega) _).setCell (p := ⟨w.heap.size + 1 + 1, 1, none⟩) (by show w.heap.size ≤ w.heap.size + 1 + 1; omega) _⟩
  · have HEE : Hid (errV (doE g ⟨what, node, prop, tie⟩) = .iface 69 (.int .i64 (opE g ⟨what, node, prop, tie⟩)) ∧ doG g ⟨what, node, prop, tie⟩ = ⟨[], []⟩) := by
      have h0 : doE g ⟨what, node, prop, tie⟩ = opE g ⟨what, node, prop, tie⟩ := HDE2.out
      exact ⟨by rw [h0]; exact errV_some hz, by rw [HDG.out, h0, if_neg hz]⟩
    rw [errV_some hz]
    have p4 := setCell_block (setCell_block p2 0 (.slice none 0 0)) 1 (.slice none 0 0)
    have HP4 := Lib.hid p4
    clear hz p2 p4 HOW4
    go_wp2_with fail
    have k2 := block_cell HP4.out 0
    have k3 := block_cell HP4.out 1
    exact bodyPost_ret (v := .tuple #[.agg #[.slice none 0 0, .slice none 0 0], .iface 69 (.int .i64 (opE g ⟨what, node, prop, tie⟩))]) (by simp [results, Tryz.results12, go_sem, k2, k3]) rfl
      ⟨.slice none 0 0, .slice none 0 0, by rw [HEE.out.1], by rw [HEE.out.2]; exact ⟨[], OwnG.nil⟩, (hBW4.setCell (p := ⟨w.heap.size + 1 + 1, 0, none⟩) (by show w.heap.size ≤ w.heap.size + 1 + 1; omega) _).setCell (p := ⟨w.heap.size + 1 + 1, 1, none⟩) (by show w.heap.size ≤ w.heap.size + 1 + 1; omega) _⟩
theorem Do_any (g : Grf) (o : Opr) (vn vt vr : Value) (w : World) (hG : GrfR w vn vt g) (hO : OprR w vr o) :
    Calls Tryz.prog 12 #[.agg #[vn, vt], .agg (oprCells o vr)] w (RetG (doG g o) (doE g o) w) := (Do_own g o vn vt vr w hG hO).mono fun _ _ h => h.r
end Go.Proofs.YtkegnmclhkpbkaaGreat

/- Plain: rows that are in one order; what each op does, as a set. No condition. -/
namespace Go.Proofs.YtkegnmclhkpbkaaGreat
open Go

/-! ### Rows in one strict order -/
section
variable {D : Type} {R : D → D → Prop}
theorem pw_ext (tr : ∀ a b c, R a b → R b c → R a c) (ir : ∀ a, ¬ R a a) : ∀ {l m : List D}, l.Pairwise R → m.Pairwise R → (∀ x, x ∈ l ↔ x ∈ m) → l = m
  | [], [], _, _, _ => rfl
  | [], y :: ys, _, _, h => by have := (h y).2 (by simp); simp at this
  | x :: xs, [], _, _, h => by have := (h x).1 (by simp); simp at this
  | x :: xs, y :: ys, hl, hm, h => by
    obtain ⟨l1, l2⟩ := List.pairwise_cons.1 hl
    obtain ⟨m1, m2⟩ := List.pairwise_cons.1 hm
    have hxy : x = y := by
      rcases List.mem_cons.1 ((h x).1 (by simp)) with e | h1
      · exact e
      · rcases List.mem_cons.1 ((h y).2 (by simp)) with e | h2
        · exact e.symm
        · exact absurd (tr _ _ _ (l1 y h2) (m1 x h1)) (ir x)
    subst hxy
    congr 1
    refine pw_ext tr ir l2 m2 fun z => ?_
    constructor
    · intro hz
      rcases List.mem_cons.1 ((h z).1 (by simp [hz])) with e | h1
      · subst e; exact absurd (l1 z hz) (ir z)
      · exact h1
    · intro hz
      rcases List.mem_cons.1 ((h z).2 (by simp [hz])) with e | h1
      · subst e; exact absurd (m1 z hz) (ir z)
      · exact h1
theorem pw_sub (tr : ∀ a b c, R a b → R b c → R a c) (ir : ∀ a, ¬ R a a) : ∀ {l m : List D}, l.Pairwise R → m.Pairwise R → (∀ x ∈ l, x ∈ m) → l.Sublist m
  | [], _, _, _, _ => List.nil_sublist _
  | x :: xs, [], _, _, h => by have := h x (by simp); simp at this
  | x :: xs, y :: ys, hl, hm, h => by
    obtain ⟨l1, l2⟩ := List.pairwise_cons.1 hl
    obtain ⟨m1, m2⟩ := List.pairwise_cons.1 hm
    rcases List.mem_cons.1 (h x (by simp)) with e | h1
    · subst e
      refine List.Sublist.cons_cons _ (pw_sub tr ir l2 m2 fun z hz => ?_)
      rcases List.mem_cons.1 (h z (by simp [hz])) with e | h2
      · subst e; exact absurd (l1 z hz) (ir z)
      · exact h2
    · refine List.Sublist.cons _ (pw_sub tr ir hl m2 fun z hz => ?_)
      rcases List.mem_cons.1 (h z hz) with e | h2
      · subst e
        rcases List.mem_cons.1 hz with e | hz
        · subst e; exact absurd (m1 z h1) (ir z)
        · exact absurd (tr _ _ _ (l1 z hz) (m1 x h1)) (ir x)
      · exact h2
theorem pw_short (tr : ∀ a b c, R a b → R b c → R a c) (ir : ∀ a, ¬ R a a) {l m : List D} (hl : l.Pairwise R) (hm : m.Pairwise R) (h : ∀ x ∈ l, x ∈ m) {y : D} (hy : y ∈ m) (hn : y ∉ l) : l.length < m.length := by
  have hs := pw_sub tr ir hl hm h
  rcases Nat.lt_or_ge l.length m.length with h1 | h1
  · exact h1
  · exact absurd (by rw [hs.eq_of_length (by have := hs.length_le; omega)]; exact hy) hn
theorem pw_erase (ir : ∀ a, ¬ R a a) {l : List D} (hl : l.Pairwise R) {i : Nat} {x : D} (hx : l[i]? = some x) (u : D) : u ∈ l.take i ++ l.drop (i + 1) ↔ u ∈ l ∧ u ≠ x := by
  have hi := (List.getElem?_eq_some_iff.1 hx).1
  have hd : l.drop i = x :: l.drop (i + 1) := drop_cons hx
  have hl0 := hl
  rw [← List.take_append_drop i l, hd, List.pairwise_append] at hl
  obtain ⟨_, p2, p3⟩ := hl
  obtain ⟨q1, _⟩ := List.pairwise_cons.1 p2
  have hm : u ∈ l ↔ u ∈ l.take i ∨ u = x ∨ u ∈ l.drop (i + 1) := by
    conv => lhs; rw [← List.take_append_drop i l, hd]
    simp
  rw [hm, List.mem_append]
  constructor
  · rintro (h | h)
    · exact ⟨.inl h, fun e => by subst e; exact ir u (p3 u h u (by simp))⟩
    · exact ⟨.inr (.inr h), fun e => by subst e; exact ir u (q1 u h)⟩
  · rintro ⟨h | h | h, hne⟩
    · exact .inl h
    · exact absurd h hne
    · exact .inr h
theorem mem_ins {l : List D} {i : Nat} {x : D} (u : D) : u ∈ l.take i ++ x :: l.drop i ↔ u ∈ l ∨ u = x := by
  have hm : u ∈ l ↔ u ∈ l.take i ∨ u ∈ l.drop i := by rw [← List.mem_append, List.take_append_drop]
  rw [hm]
  simp only [List.mem_append, List.mem_cons]
  constructor
  · rintro (h | h | h)
    · exact .inl (.inl h)
    · exact .inr h
    · exact .inl (.inr h)
  · rintro ((h | h) | h)
    · exact .inl h
    · exact .inr (.inr h)
    · exact .inr (.inl h)
end
theorem nodLt_ir : ∀ a, ¬ nodLt a a = true := by intro a h; unfold nodLt at h; simp at h
theorem tieLt_ir : ∀ a, ¬ tieLt a a = true := by
  intro a h
  unfold tieLt at h
  have h1 := of_decide_eq_true h
  have := (tieO_zero (a := a) (b := a)).2 rfl
  omega
theorem prpLt_ir : ∀ a, ¬ prpLt a a = true := by
  intro a h
  rw [prpLt_iff] at h
  have := (cmpS_zero (a := a.name) (b := a.name)).2 rfl
  omega
theorem nods_pw {g : Grf} (h : grfE g = 0) : g.nodes.Pairwise fun a b => nodLt a b = true := (chain_pw nodLt_tr).1 (grf_ok h).2.2.1
theorem ties_pw {g : Grf} (h : grfE g = 0) : g.ties.Pairwise fun a b => tieLt a b = true := (chain_pw tieLt_tr).1 (grf_ties h).1
theorem prps_pw {r : List Prp} (h : recE r = 0) : r.Pairwise fun a b => prpLt a b = true := (chain_pw prpLt_tr).1 (rec_ok h).2.2
/-- Right graphs with the same nodes and ties are one. -/
theorem grf_ext {a b : Grf} (ha : grfE a = 0) (hb : grfE b = 0) (h1 : ∀ n, n ∈ a.nodes ↔ n ∈ b.nodes) (h2 : ∀ t, t ∈ a.ties ↔ t ∈ b.ties) : a = b := by
  have e1 := pw_ext nodLt_tr nodLt_ir (nods_pw ha) (nods_pw hb) h1
  have e2 := pw_ext tieLt_tr tieLt_ir (ties_pw ha) (ties_pw hb) h2
  cases a; cases b
  simp only at e1 e2
  rw [e1, e2]
theorem id_uniq {g : Grf} (h : grfE g = 0) {m n : Nod} (hm : m ∈ g.nodes) (hn : n ∈ g.nodes) (e : m.id = n.id) : m = n := by
  obtain ⟨i, hi⟩ := List.mem_iff_getElem?.1 hm
  obtain ⟨j, hj⟩ := List.mem_iff_getElem?.1 hn
  have hc := (grf_ok h).2.2.1
  rcases Nat.lt_trichotomy i j with hl | hl | hl
  · have := chain_lt2 hc hl hi hj; omega
  · subst hl; rw [hi] at hj; injection hj
  · have := chain_lt2 hc hl hj hi; omega
theorem name_uniq {r : List Prp} (h : recE r = 0) {p q : Prp} (hp : p ∈ r) (hq : q ∈ r) (e : p.name = q.name) : p = q := by
  have hpw := prps_pw h
  obtain ⟨i, hi⟩ := List.mem_iff_getElem?.1 hp
  obtain ⟨j, hj⟩ := List.mem_iff_getElem?.1 hq
  obtain ⟨hil, rfl⟩ := List.getElem?_eq_some_iff.1 hi
  obtain ⟨hjl, rfl⟩ := List.getElem?_eq_some_iff.1 hj
  have h0 := (cmpS_zero (a := r[i].name) (b := r[j].name)).2 e
  have h1 := cmpS_anti r[i].name r[j].name
  rcases Nat.lt_trichotomy i j with hl | hl | hl
  · have := prpLt_iff.1 (List.pairwise_iff_getElem.1 hpw i j hil hjl hl); omega
  · subst hl; rfl
  · have := prpLt_iff.1 (List.pairwise_iff_getElem.1 hpw j i hjl hil hl); omega
/-! ### What is there, by name -/
theorem fhas_mem {g : Grf} (h : grfE g = 0) (id : Int) : fhas g.nodes id = true ↔ ∃ n ∈ g.nodes, n.id = id := by
  rw [fhas_any (grf_ok h).2.2.1, List.any_eq_true]
  simp
theorem fpos_of {g : Grf} (h : grfE g = 0) {n : Nod} (hn : n ∈ g.nodes) : fhas g.nodes n.id = true ∧ g.nodes[fpos g.nodes n.id]? = some n := by
  have hh := (fhas_mem h n.id).2 ⟨n, hn, rfl⟩
  refine ⟨hh, ?_⟩
  obtain ⟨m, hm⟩ := fhas_some' hh
  have h0 : nodC n.id m = 0 := by
    unfold fhas eqAt at hh
    rw [hm] at hh
    simpa using hh
  have : m.id = n.id := cmpI_zero.1 h0
  rw [hm, id_uniq h (List.mem_of_getElem? hm) hn this]
theorem thas_mem {g : Grf} (h : grfE g = 0) (t : Tie) : thas g.ties t = true ↔ t ∈ g.ties := by
  constructor
  · intro hh
    unfold thas eqAt at hh
    cases hm : g.ties[tpos g.ties t]? with
    | none => rw [hm] at hh; cases hh
    | some u =>
      rw [hm] at hh
      have : tieC t u = 0 := by simpa using hh
      rw [← tieO_zero.1 this]
      exact List.mem_of_getElem? hm
  · intro hm
    cases hq : thas g.ties t with
    | true => rfl
    | false =>
      obtain ⟨b1, b2⟩ := low_parts (c := tieC t) (grf_ties h).1 (tieC_mono t) hq (fun a b hab hb => by
        unfold tieLt at hab; unfold tieC at *
        rw [← tieO_zero.1 hb]; exact of_decide_eq_true hab)
      have h0 : tieC t t = 0 := tieO_zero.2 rfl
      rw [← List.take_append_drop (lowI (tieC t) g.ties) g.ties] at hm
      rcases List.mem_append.1 hm with hm | hm
      · have := b1 t hm; omega
      · have := b2 t hm; omega
theorem tpos_of {g : Grf} (h : grfE g = 0) {t : Tie} (ht : t ∈ g.ties) : g.ties[tpos g.ties t]? = some t := by
  have hh := (thas_mem h t).2 ht
  unfold thas eqAt at hh
  cases hm : g.ties[tpos g.ties t]? with
  | none => rw [hm] at hh; cases hh
  | some u =>
    rw [hm] at hh
    have : tieC t u = 0 := by simpa using hh
    rw [tieO_zero.1 this]
theorem rhas_mem {r : List Prp} (h : recE r = 0) (nm : ByteArray) : rhas r nm = true ↔ ∃ p ∈ r, p.name = nm := by
  constructor
  · intro hh
    obtain ⟨p, hp⟩ := rhas_some hh
    refine ⟨p, List.mem_of_getElem? hp, ?_⟩
    unfold rhas eqAt at hh
    rw [hp] at hh
    have : prpC nm p = 0 := by simpa using hh
    exact cmpS_zero.1 this
  · rintro ⟨p, hp, rfl⟩
    cases hq : rhas r p.name with
    | true => rfl
    | false =>
      obtain ⟨b1, b2⟩ := low_parts (c := prpC p.name) (rec_ok h).2.2 (prpC_mono p.name) hq (prp_hz p.name)
      have h0 : prpC p.name p = 0 := cmpS_zero.2 rfl
      rw [← List.take_append_drop (lowI (prpC p.name) r) r] at hp
      rcases List.mem_append.1 hp with hm | hm
      · have := b1 p hm; omega
      · have := b2 p hm; omega
theorem rpos_of {r : List Prp} (h : recE r = 0) {p : Prp} (hp : p ∈ r) : r[rpos r p.name]? = some p := by
  have hh := (rhas_mem h p.name).2 ⟨p, hp, rfl⟩
  obtain ⟨q, hq⟩ := rhas_some hh
  have hh2 := hh
  unfold rhas eqAt at hh2
  rw [hq] at hh2
  have : prpC p.name q = 0 := by simpa using hh2
  rw [hq, name_uniq h (List.mem_of_getElem? hq) hp (cmpS_zero.1 this)]
end Go.Proofs.YtkegnmclhkpbkaaGreat

/- Plain: what each op does to a right graph, as a set of nodes and ties. No condition. -/
namespace Go.Proofs.YtkegnmclhkpbkaaGreat
open Go

def looseOpr (t : Tie) : Opr := ⟨6, ⟨0, .empty, []⟩, ⟨.empty, ⟨0, 0, .empty⟩⟩, t⟩
def bindOpr (t : Tie) : Opr := ⟨5, ⟨0, .empty, []⟩, ⟨.empty, ⟨0, 0, .empty⟩⟩, t⟩
def goneOpr (id : Int) : Opr := ⟨2, ⟨id, .empty, []⟩, ⟨.empty, ⟨0, 0, .empty⟩⟩, ⟨.empty, 0, 0⟩⟩
def newOpr (n : Nod) : Opr := ⟨1, n, ⟨.empty, ⟨0, 0, .empty⟩⟩, ⟨.empty, 0, 0⟩⟩
def setOpr (id : Int) (p : Prp) : Opr := ⟨3, ⟨id, .empty, []⟩, p, ⟨.empty, 0, 0⟩⟩
def unsetOpr (id : Int) (nm : ByteArray) : Opr := ⟨4, ⟨id, .empty, []⟩, ⟨nm, ⟨0, 0, .empty⟩⟩, ⟨.empty, 0, 0⟩⟩
theorem loose_op {g : Grf} (h : grfE g = 0) {t : Tie} (ht : t ∈ g.ties) : opE g (looseOpr t) = 0 ∧ (opG g (looseOpr t)).nodes = g.nodes ∧ ∀ u, u ∈ (opG g (looseOpr t)).ties ↔ u ∈ g.ties ∧ u ≠ t := by
  have hE : opE g (looseOpr t) = if thas g.ties t then 0 else 5 := rfl
  have hG : opG g (looseOpr t) = ⟨g.nodes, g.ties.take (tpos g.ties t) ++ g.ties.drop (tpos g.ties t + 1)⟩ := rfl
  refine ⟨by rw [hE, (thas_mem h t).2 ht]; rfl, by rw [hG], fun u => ?_⟩
  rw [hG]
  exact pw_erase tieLt_ir (ties_pw h) (tpos_of h ht) u
theorem bind_op {g : Grf} (h : grfE g = 0) {t : Tie} (ht : t ∉ g.ties) (hl : g.ties.length < 120) (he : tieE t = 0) : opE g (bindOpr t) = 0 ∧ (opG g (bindOpr t)).nodes = g.nodes ∧ ∀ u, u ∈ (opG g (bindOpr t)).ties ↔ u ∈ g.ties ∨ u = t := by
  have hE : opE g (bindOpr t) = if tieE t = 0 then (if thas g.ties t then 7 else if 120 ≤ g.ties.length then 4 else 0) else tieE t := rfl
  have hG : opG g (bindOpr t) = ⟨g.nodes, g.ties.take (tpos g.ties t) ++ t :: g.ties.drop (tpos g.ties t)⟩ := rfl
  have hno : thas g.ties t = false := by
    cases hq : thas g.ties t with
    | false => rfl
    | true => exact absurd ((thas_mem h t).1 hq) ht
  refine ⟨by rw [hE, if_pos he, hno, if_neg (by simp), if_neg (by omega)], by rw [hG], fun u => ?_⟩
  rw [hG]
  exact mem_ins u
theorem gone_op {g : Grf} (h : grfE g = 0) {id : Int} (hi : ∃ n ∈ g.nodes, n.id = id) : opE g (goneOpr id) = 0 ∧ (∀ m, m ∈ (opG g (goneOpr id)).nodes ↔ m ∈ g.nodes ∧ m.id ≠ id) ∧ ∀ u, u ∈ (opG g (goneOpr id)).ties ↔ u ∈ g.ties ∧ u.src ≠ id ∧ u.dst ≠ id := by
  have hE : opE g (goneOpr id) = if fhas g.nodes id then 0 else 5 := rfl
  have hG : opG g (goneOpr id) = ⟨g.nodes.take (fpos g.nodes id) ++ g.nodes.drop (fpos g.nodes id + 1), g.ties.filter fun t => !touch id t⟩ := rfl
  refine ⟨by rw [hE, (fhas_mem h id).2 hi]; rfl, fun m => ?_, fun u => ?_⟩
  · obtain ⟨n, hn, rfl⟩ := hi
    rw [hG]
    refine (pw_erase nodLt_ir (nods_pw h) (fpos_of h hn).2 m).trans ⟨fun ⟨h1, h2⟩ => ⟨h1, fun e => h2 (id_uniq h h1 hn e)⟩, fun ⟨h1, h2⟩ => ⟨h1, fun e => h2 (by rw [e])⟩⟩
  · rw [hG]
    simp only [List.mem_filter, touch, Bool.not_or, Bool.and_eq_true, Bool.not_eq_true', beq_eq_false_iff_ne, ne_eq]
theorem new_op {g : Grf} (h : grfE g = 0) {n : Nod} (hi : ∀ m ∈ g.nodes, m.id ≠ n.id) (hl : g.nodes.length < 60) (he : nodE n = 0) : opE g (newOpr n) = 0 ∧ (∀ m, m ∈ (opG g (newOpr n)).nodes ↔ m ∈ g.nodes ∨ m = n) ∧ (opG g (newOpr n)).ties = g.ties := by
  have hE : opE g (newOpr n) = if nodE n = 0 then (if fhas g.nodes n.id then 7 else if 60 ≤ g.nodes.length then 4 else 0) else nodE n := rfl
  have hG : opG g (newOpr n) = ⟨g.nodes.take (fpos g.nodes n.id) ++ n :: g.nodes.drop (fpos g.nodes n.id), g.ties⟩ := rfl
  have hno : fhas g.nodes n.id = false := by
    cases hq : fhas g.nodes n.id with
    | false => rfl
    | true =>
      obtain ⟨m, hm, e⟩ := (fhas_mem h n.id).1 hq
      exact absurd e (hi m hm)
  refine ⟨by rw [hE, if_pos he, hno, if_neg (by simp), if_neg (by omega)], fun m => ?_, by rw [hG]⟩
  rw [hG]
  exact mem_ins m
theorem putRec_mem {g : Grf} (h : grfE g = 0) {n : Nod} (hn : n ∈ g.nodes) (r : List Prp) (m : Nod) : m ∈ putRec g.nodes (fpos g.nodes n.id) r ↔ (m ∈ g.nodes ∧ m.id ≠ n.id) ∨ m = ⟨n.id, n.kind, r⟩ := by
  obtain ⟨_, hp⟩ := fpos_of h hn
  unfold putRec
  rw [hp]
  have hi := (List.getElem?_eq_some_iff.1 hp).1
  generalize fpos g.nodes n.id = i at *
  constructor
  · intro hm
    obtain ⟨j, hj⟩ := List.mem_iff_getElem?.1 hm
    rw [List.getElem?_set] at hj
    split at hj
    · injection hj with hj; exact .inr hj.symm
    · rename_i hne
      refine .inl ⟨List.mem_of_getElem? hj, fun e => hne ?_⟩
      have hc := (grf_ok h).2.2.1
      rcases Nat.lt_trichotomy i j with hl | hl | hl
      · have := chain_lt2 hc hl hp hj; omega
      · exact hl
      · have := chain_lt2 hc hl hj hp; omega
  · rintro (⟨hm, hne⟩ | rfl)
    · obtain ⟨j, hj⟩ := List.mem_iff_getElem?.1 hm
      refine List.mem_iff_getElem?.2 ⟨j, ?_⟩
      rw [List.getElem?_set]
      rw [if_neg (fun e => by subst e; rw [hp] at hj; injection hj with hj; exact hne (by rw [hj]))]
      exact hj
    · refine List.mem_iff_getElem?.2 ⟨i, ?_⟩
      rw [List.getElem?_set_self hi]
theorem recAt_of {g : Grf} (h : grfE g = 0) {n : Nod} (hn : n ∈ g.nodes) : recAt g.nodes n.id = n.props := by
  unfold recAt; rw [(fpos_of h hn).2]
theorem set_op {g : Grf} (h : grfE g = 0) {n : Nod} (hn : n ∈ g.nodes) {p : Prp} (he : setE n.props p = 0) : opE g (setOpr n.id p) = 0 ∧ (∀ m, m ∈ (opG g (setOpr n.id p)).nodes ↔ (m ∈ g.nodes ∧ m.id ≠ n.id) ∨ m = ⟨n.id, n.kind, setR n.props p⟩) ∧ (opG g (setOpr n.id p)).ties = g.ties := by
  have hE : opE g (setOpr n.id p) = if fhas g.nodes n.id then setE (recAt g.nodes n.id) p else 5 := rfl
  have hG : opG g (setOpr n.id p) = ⟨putRec g.nodes (fpos g.nodes n.id) (setR (recAt g.nodes n.id) p), g.ties⟩ := rfl
  rw [recAt_of h hn] at hE hG
  exact ⟨by rw [hE, (fpos_of h hn).1, if_pos rfl, he], fun m => by rw [hG]; exact putRec_mem h hn _ m, by rw [hG]⟩
theorem unset_op {g : Grf} (h : grfE g = 0) {n : Nod} (hn : n ∈ g.nodes) {nm : ByteArray} (he : unsetE n.props nm = 0) : opE g (unsetOpr n.id nm) = 0 ∧ (∀ m, m ∈ (opG g (unsetOpr n.id nm)).nodes ↔ (m ∈ g.nodes ∧ m.id ≠ n.id) ∨ m = ⟨n.id, n.kind, unsetR n.props nm⟩) ∧ (opG g (unsetOpr n.id nm)).ties = g.ties := by
  have hE : opE g (unsetOpr n.id nm) = if fhas g.nodes n.id then unsetE (recAt g.nodes n.id) nm else 5 := rfl
  have hG : opG g (unsetOpr n.id nm) = ⟨putRec g.nodes (fpos g.nodes n.id) (unsetR (recAt g.nodes n.id) nm), g.ties⟩ := rfl
  rw [recAt_of h hn] at hE hG
  exact ⟨by rw [hE, (fpos_of h hn).1, if_pos rfl, he], fun m => by rw [hG]; exact putRec_mem h hn _ m, by rw [hG]⟩
/-! ### Records, as sets -/
theorem unset_rec {r : List Prp} (h : recE r = 0) {p : Prp} (hp : p ∈ r) : unsetE r p.name = 0 ∧ ∀ q, q ∈ unsetR r p.name ↔ q ∈ r ∧ q.name ≠ p.name := by
  have hE : unsetE r p.name = 0 := by unfold unsetE; rw [if_pos h, (rhas_mem h p.name).2 ⟨p, hp, rfl⟩]; rfl
  refine ⟨hE, fun q => ?_⟩
  unfold unsetR
  rw [if_pos hE]
  refine (pw_erase prpLt_ir (prps_pw h) (rpos_of h hp) q).trans ⟨fun ⟨h1, h2⟩ => ⟨h1, fun e => h2 (name_uniq h h1 hp e)⟩, fun ⟨h1, h2⟩ => ⟨h1, fun e => h2 (by rw [e])⟩⟩
theorem set_rec {r : List Prp} (h : recE r = 0) {p : Prp} (he : prpE p = 0) (hl : (∃ q ∈ r, q.name = p.name) ∨ r.length < 8) : setE r p = 0 ∧ ∀ q, q ∈ setR r p ↔ (q ∈ r ∧ q.name ≠ p.name) ∨ q = p := by
  cases hh : rhas r p.name with
  | true =>
    have hE : setE r p = 0 := by unfold setE; rw [if_pos h, if_pos he, hh]; rfl
    refine ⟨hE, fun q => ?_⟩
    obtain ⟨x, hx, hxn⟩ := (rhas_mem h p.name).1 hh
    have hpos := rpos_of h hx
    rw [hxn] at hpos
    unfold setR putP
    rw [if_pos hE, hh, if_pos rfl]
    have hi := (List.getElem?_eq_some_iff.1 hpos).1
    generalize rpos r p.name = i at *
    constructor
    · intro hm
      obtain ⟨j, hj⟩ := List.mem_iff_getElem?.1 hm
      rw [List.getElem?_set] at hj
      split at hj
      · injection hj with hj; exact .inr hj.symm
      · rename_i hne
        refine .inl ⟨List.mem_of_getElem? hj, fun e => hne ?_⟩
        have hq := List.mem_of_getElem? hj
        have heq : q = x := name_uniq h hq hx (by rw [e, hxn])
        subst heq
        have hpw := prps_pw h
        obtain ⟨hjl, ej⟩ := List.getElem?_eq_some_iff.1 hj
        obtain ⟨hil, ei⟩ := List.getElem?_eq_some_iff.1 hpos
        rcases Nat.lt_trichotomy i j with hl | hl | hl
        · have := List.pairwise_iff_getElem.1 hpw i j hil hjl hl
          rw [ei, ej] at this; exact absurd this (prpLt_ir q)
        · exact hl
        · have := List.pairwise_iff_getElem.1 hpw j i hjl hil hl
          rw [ei, ej] at this; exact absurd this (prpLt_ir q)
    · rintro (⟨hm, hne⟩ | rfl)
      · obtain ⟨j, hj⟩ := List.mem_iff_getElem?.1 hm
        refine List.mem_iff_getElem?.2 ⟨j, ?_⟩
        rw [List.getElem?_set]
        rw [if_neg (fun e => by subst e; rw [hpos] at hj; injection hj with hj; exact hne (by rw [← hj, hxn]))]
        exact hj
      · refine List.mem_iff_getElem?.2 ⟨i, ?_⟩
        rw [List.getElem?_set_self hi]
  | false =>
    have hno : ∀ q ∈ r, q.name ≠ p.name := fun q hq e => by
      have := (rhas_mem h p.name).2 ⟨q, hq, e⟩
      rw [hh] at this; cases this
    have hl8 : r.length < 8 := by
      rcases hl with ⟨q, hq, e⟩ | hl
      · exact absurd e (hno q hq)
      · exact hl
    have hE : setE r p = 0 := by unfold setE; rw [if_pos h, if_pos he, hh, if_neg (by simp), if_neg (by omega)]
    refine ⟨hE, fun q => ?_⟩
    unfold setR putP
    rw [if_pos hE, hh, if_neg (by simp)]
    refine (mem_ins q).trans ⟨?_, ?_⟩
    · rintro (h1 | h1)
      · exact .inl ⟨h1, hno q h1⟩
      · exact .inr h1
    · rintro (h1 | h1)
      · exact .inl h1.1
      · exact .inr h1
end Go.Proofs.YtkegnmclhkpbkaaGreat

/- Plain: what ops do not touch is as it was. No condition. -/
namespace Go.Proofs.YtkegnmclhkpbkaaGreat
open Go

/-- Which nodes an op touches; which ops do. -/
def touchG (g : Grf) (o : Opr) (i : Int) : Prop :=
  if o.what = 5 ∨ o.what = 6 then i = o.tie.src ∨ i = o.tie.dst
  else i = o.node.id ∨ (o.what = 2 ∧ ∃ t ∈ g.ties, (t.src = o.node.id ∨ t.dst = o.node.id) ∧ (i = t.src ∨ i = t.dst))
def touchL : Grf → List Opr → Int → Prop
  | _, [], _ => False
  | g, o :: r, i => touchG g o i ∨ touchL (opG g o) r i
structure Near (g g' : Grf) (U : Int → Prop) : Prop where
  n1 : ∀ n ∈ g.nodes, U n.id → n ∈ g'.nodes
  n2 : ∀ n ∈ g'.nodes, U n.id → n ∈ g.nodes
  t : ∀ t, U t.src → (t ∈ g.ties ↔ t ∈ g'.ties)
  k : ∀ t ∈ g.ties, U t.src → ∀ m ∈ g.nodes, m.id = t.dst → ∃ m' ∈ g'.nodes, m'.id = m.id ∧ m'.kind = m.kind
theorem Near.refl (g : Grf) (U : Int → Prop) : Near g g U := ⟨fun _ h _ => h, fun _ h _ => h, fun _ _ => Iff.rfl, fun _ _ _ m hm _ => ⟨m, hm, rfl, rfl⟩⟩
theorem Near.trans {a b c : Grf} {U V : Int → Prop} (h : Near a b U) (k : Near b c V) : Near a c (fun i => U i ∧ V i) := by
  refine ⟨fun n hn hu => k.n1 n (h.n1 n hn hu.1) hu.2, fun n hn hu => h.n2 n (k.n2 n hn hu.2) hu.1, fun t hu => (h.t t hu.1).trans (k.t t hu.2), fun t ht hu m hm he => ?_⟩
  obtain ⟨m1, a1, a2, a3⟩ := h.k t ht hu.1 m hm he
  obtain ⟨m2, b1, b2, b3⟩ := k.k t ((h.t t hu.1).1 ht) hu.2 m1 a1 (a2.trans he)
  exact ⟨m2, b1, b2.trans a2, b3.trans a3⟩
theorem op_as1 {g : Grf} {o : Opr} (h : o.what = 1) : opE g o = opE g (newOpr o.node) ∧ opG g o = opG g (newOpr o.node) := by
  unfold opE opG; rw [h]; exact ⟨rfl, rfl⟩
theorem op_as2 {g : Grf} {o : Opr} (h : o.what = 2) : opE g o = opE g (goneOpr o.node.id) ∧ opG g o = opG g (goneOpr o.node.id) := by
  unfold opE opG; rw [h]; exact ⟨rfl, rfl⟩
theorem op_as3 {g : Grf} {o : Opr} (h : o.what = 3) : opE g o = opE g (setOpr o.node.id o.prop) ∧ opG g o = opG g (setOpr o.node.id o.prop) := by
  unfold opE opG; rw [h]; exact ⟨rfl, rfl⟩
theorem op_as4 {g : Grf} {o : Opr} (h : o.what = 4) : opE g o = opE g (unsetOpr o.node.id o.prop.name) ∧ opG g o = opG g (unsetOpr o.node.id o.prop.name) := by
  unfold opE opG; rw [h]; exact ⟨rfl, rfl⟩
theorem op_as5 {g : Grf} {o : Opr} (h : o.what = 5) : opE g o = opE g (bindOpr o.tie) ∧ opG g o = opG g (bindOpr o.tie) := by
  unfold opE opG; rw [h]; exact ⟨rfl, rfl⟩
theorem op_as6 {g : Grf} {o : Opr} (h : o.what = 6) : opE g o = opE g (looseOpr o.tie) ∧ opG g o = opG g (looseOpr o.tie) := by
  unfold opE opG; rw [h]; exact ⟨rfl, rfl⟩
theorem op_kinds {g : Grf} {o : Opr} (h : opE g o = 0) : o.what = 1 ∨ o.what = 2 ∨ o.what = 3 ∨ o.what = 4 ∨ o.what = 5 ∨ o.what = 6 := by
  by_cases h1 : o.what = 1; · exact .inl h1
  by_cases h2 : o.what = 2; · exact .inr (.inl h2)
  by_cases h3 : o.what = 3; · exact .inr (.inr (.inl h3))
  by_cases h4 : o.what = 4; · exact .inr (.inr (.inr (.inl h4)))
  by_cases h5 : o.what = 5; · exact .inr (.inr (.inr (.inr (.inl h5))))
  by_cases h6 : o.what = 6; · exact .inr (.inr (.inr (.inr (.inr h6))))
  unfold opE at h
  rw [if_neg h1, if_neg h2, if_neg h3, if_neg h4, if_neg h5, if_neg h6] at h
  cases h
theorem put_near {g g' : Grf} {id : Int} {n : Nod} {r : List Prp} (hn : n ∈ g.nodes) (hid : n.id = id) (hu : ∀ m ∈ g.nodes, m.id = n.id → m = n) (h1 : ∀ m, m ∈ g'.nodes ↔ (m ∈ g.nodes ∧ m.id ≠ n.id) ∨ m = ⟨n.id, n.kind, r⟩) (h2 : g'.ties = g.ties) : Near g g' (fun i => i ≠ id) := by
  subst hid
  refine ⟨fun m hm hne => (h1 m).2 (.inl ⟨hm, hne⟩), fun m hm hne => ?_, fun t _ => by rw [h2], fun t _ _ m hm _ => ?_⟩
  · rcases (h1 m).1 hm with h | rfl
    · exact h.1
    · exact absurd rfl hne
  · by_cases e : m.id = n.id
    · exact ⟨_, (h1 _).2 (.inr rfl), e.symm, by rw [hu m hm e]⟩
    · exact ⟨m, (h1 m).2 (.inl ⟨hm, e⟩), rfl, rfl⟩
theorem near_op {g : Grf} {o : Opr} (h : grfE g = 0) (he : opE g o = 0) : Near g (opG g o) (fun i => ¬ touchG g o i) := by
  have hto : ∀ i, ¬ (o.what = 5 ∨ o.what = 6) → ¬ touchG g o i → i ≠ o.node.id := fun i hw ht e => ht (by unfold touchG; rw [if_neg hw]; exact .inl e)
  have hlift : ∀ {V : Int → Prop}, (∀ i, ¬ touchG g o i → V i) → Near g (opG g o) V → Near g (opG g o) (fun i => ¬ touchG g o i) := fun {V} hv hN =>
    ⟨fun n hn hu => hN.n1 n hn (hv _ hu), fun n hn hu => hN.n2 n hn (hv _ hu), fun t hu => hN.t t (hv _ hu), fun t ht hu m hm e => hN.k t ht (hv _ hu) m hm e⟩
  rcases op_kinds he with hw | hw | hw | hw | hw | hw
  · obtain ⟨e1, e2⟩ := op_as1 (g := g) hw
    have he1 := he
    rw [e1] at he1
    have hE : opE g (newOpr o.node) = if nodE o.node = 0 then (if fhas g.nodes o.node.id then 7 else if 60 ≤ g.nodes.length then 4 else 0) else nodE o.node := rfl
    rw [hE] at he1
    have hne : nodE o.node = 0 := by
      by_cases hx : nodE o.node = 0
      · exact hx
      · rw [if_neg hx] at he1; exact absurd he1 hx
    rw [if_pos hne] at he1
    have hno : ∀ m ∈ g.nodes, m.id ≠ o.node.id := fun m hm e => by
      rw [(fhas_mem h o.node.id).2 ⟨m, hm, e⟩] at he1; cases he1
    have hl : g.nodes.length < 60 := by
      by_cases hx : 60 ≤ g.nodes.length
      · split at he1
        · cases he1
        · cases he1
      · omega
    obtain ⟨_, a2, a3⟩ := new_op h hno hl hne
    rw [← e2] at a2 a3
    refine hlift (V := fun i => i ≠ o.node.id) (fun i ht => hto i (by omega) ht) ⟨fun n hn _ => (a2 n).2 (.inl hn), fun n hn hu => ?_, fun t _ => by rw [a3], fun t _ _ m hm _ => ⟨m, (a2 m).2 (.inl hm), rfl, rfl⟩⟩
    rcases (a2 n).1 hn with h1 | rfl
    · exact h1
    · exact absurd rfl hu
  · obtain ⟨e1, e2⟩ := op_as2 (g := g) hw
    have he1 := he
    rw [e1] at he1
    have hE : opE g (goneOpr o.node.id) = if fhas g.nodes o.node.id then 0 else 5 := rfl
    have hi : ∃ n ∈ g.nodes, n.id = o.node.id := by
      refine (fhas_mem h _).1 ?_
      cases hq : fhas g.nodes o.node.id with
      | true => rfl
      | false => rw [hE, hq] at he1; cases he1
    obtain ⟨_, a2, a3⟩ := gone_op h hi
    rw [← e2] at a2 a3
    have hti : ∀ i, ¬ touchG g o i → ∀ t ∈ g.ties, t.src = o.node.id ∨ t.dst = o.node.id → i ≠ t.src ∧ i ≠ t.dst := fun i ht t htm hx => by
      unfold touchG at ht
      rw [if_neg (by omega)] at ht
      exact ⟨fun e => ht (.inr ⟨hw, t, htm, hx, .inl e⟩), fun e => ht (.inr ⟨hw, t, htm, hx, .inr e⟩)⟩
    refine ⟨fun n hn hu => (a2 n).2 ⟨hn, hto _ (by omega) hu⟩, fun n hn _ => ((a2 n).1 hn).1, fun t hu => ?_, fun t ht hu m hm e => ?_⟩
    · rw [a3]
      refine ⟨fun ht => ⟨ht, fun e => (hti _ hu t ht (.inl e)).1 rfl, fun e => (hti _ hu t ht (.inr e)).1 rfl⟩, fun ht => ht.1⟩
    · refine ⟨m, (a2 m).2 ⟨hm, fun e2 => ?_⟩, rfl, rfl⟩
      exact (hti _ hu t ht (.inr (by rw [← e, e2]))).1 rfl
  · obtain ⟨e1, e2⟩ := op_as3 (g := g) hw
    have he1 := he
    rw [e1] at he1
    have hE : opE g (setOpr o.node.id o.prop) = if fhas g.nodes o.node.id then setE (recAt g.nodes o.node.id) o.prop else 5 := rfl
    have hh : fhas g.nodes o.node.id = true := by
      cases hq : fhas g.nodes o.node.id with
      | true => rfl
      | false => rw [hE, hq] at he1; cases he1
    obtain ⟨n, hn, hid⟩ := (fhas_mem h _).1 hh
    rw [hE, hh, if_pos rfl, ← hid, recAt_of h hn] at he1
    obtain ⟨_, a2, a3⟩ := set_op h hn he1
    rw [hid, ← e2] at a2 a3
    exact hlift (V := fun i => i ≠ o.node.id) (fun i ht => hto i (by omega) ht) (put_near hn hid (fun m hm e => id_uniq h hm hn e) (fun m => by rw [a2, hid]) a3)
  · obtain ⟨e1, e2⟩ := op_as4 (g := g) hw
    have he1 := he
    rw [e1] at he1
    have hE : opE g (unsetOpr o.node.id o.prop.name) = if fhas g.nodes o.node.id then unsetE (recAt g.nodes o.node.id) o.prop.name else 5 := rfl
    have hh : fhas g.nodes o.node.id = true := by
      cases hq : fhas g.nodes o.node.id with
      | true => rfl
      | false => rw [hE, hq] at he1; cases he1
    obtain ⟨n, hn, hid⟩ := (fhas_mem h _).1 hh
    rw [hE, hh, if_pos rfl, ← hid, recAt_of h hn] at he1
    obtain ⟨_, a2, a3⟩ := unset_op h hn he1
    rw [hid, ← e2] at a2 a3
    exact hlift (V := fun i => i ≠ o.node.id) (fun i ht => hto i (by omega) ht) (put_near hn hid (fun m hm e => id_uniq h hm hn e) (fun m => by rw [a2, hid]) a3)
  · obtain ⟨e1, e2⟩ := op_as5 (g := g) hw
    have he1 := he
    rw [e1] at he1
    have hE : opE g (bindOpr o.tie) = if tieE o.tie = 0 then (if thas g.ties o.tie then 7 else if 120 ≤ g.ties.length then 4 else 0) else tieE o.tie := rfl
    rw [hE] at he1
    have hne : tieE o.tie = 0 := by
      by_cases hx : tieE o.tie = 0
      · exact hx
      · rw [if_neg hx] at he1; exact absurd he1 hx
    rw [if_pos hne] at he1
    have hno : o.tie ∉ g.ties := fun hm => by rw [(thas_mem h o.tie).2 hm] at he1; cases he1
    have hl : g.ties.length < 120 := by
      by_cases hx : 120 ≤ g.ties.length
      · split at he1
        · cases he1
        · cases he1
      · omega
    obtain ⟨_, a2, a3⟩ := bind_op h hno hl hne
    rw [← e2] at a2 a3
    have hv : ∀ i, ¬ touchG g o i → i ≠ o.tie.src := fun i ht e => ht (by unfold touchG; rw [if_pos (.inl hw)]; exact .inl e)
    refine ⟨fun n hn _ => by rw [a2]; exact hn, fun n hn _ => by rw [a2] at hn; exact hn, fun t hu => ?_, fun t _ _ m hm _ => ⟨m, by rw [a2]; exact hm, rfl, rfl⟩⟩
    rw [a3]
    exact ⟨.inl, fun h1 => h1.elim id fun e => absurd (by rw [e]) (hv _ hu)⟩
  · obtain ⟨e1, e2⟩ := op_as6 (g := g) hw
    have he1 := he
    rw [e1] at he1
    have hE : opE g (looseOpr o.tie) = if thas g.ties o.tie then 0 else 5 := rfl
    have hin : o.tie ∈ g.ties := by
      refine (thas_mem h _).1 ?_
      cases hq : thas g.ties o.tie with
      | true => rfl
      | false => rw [hE, hq] at he1; cases he1
    obtain ⟨_, a2, a3⟩ := loose_op h hin
    rw [← e2] at a2 a3
    have hv : ∀ i, ¬ touchG g o i → i ≠ o.tie.src := fun i ht e => ht (by unfold touchG; rw [if_pos (.inr hw)]; exact .inl e)
    refine ⟨fun n hn _ => by rw [a2]; exact hn, fun n hn _ => by rw [a2] at hn; exact hn, fun t hu => ?_, fun t _ _ m hm _ => ⟨m, by rw [a2]; exact hm, rfl, rfl⟩⟩
    rw [a3]
    exact ⟨fun h1 => ⟨h1, fun e => hv _ hu (by rw [e])⟩, fun h1 => h1.1⟩
theorem near_all : ∀ {l : List Opr} {g : Grf}, grfE g = 0 → allE g l = 0 → Near g (allG g l) (fun i => ¬ touchL g l i)
  | [], g, _, _ => Near.refl g _
  | o :: r, g, h, he => by
    have h0 : opE g o = 0 := by
      unfold allE at he
      by_cases hx : opE g o = 0
      · exact hx
      · rw [if_neg hx] at he; exact absurd he hx
    rw [allE, if_pos h0] at he
    rw [allG, if_pos h0]
    have := (near_op h h0).trans (near_all (op_right h h0) he)
    refine ⟨fun n hn hu => this.n1 n hn ?_, fun n hn hu => this.n2 n hn ?_, fun t hu => this.t t ?_, fun t ht hu => this.k t ht ?_⟩
    all_goals
      unfold touchL at hu
      exact ⟨fun e => hu (.inl e), fun e => hu (.inr e)⟩
end Go.Proofs.YtkegnmclhkpbkaaGreat
