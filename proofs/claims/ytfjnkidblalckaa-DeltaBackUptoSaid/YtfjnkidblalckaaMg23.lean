/- Parts: DelAll, GtB, GtC. -/
import Derived.Test.YtfjnkidblalckaaMg15
import Derived.Deep.DeepCutAuto
import Derived.Test.YtfjnkidblalckaaMg06
/- Contract: delta.Do. -/
namespace Go.Proofs.Ytfjnkidblalckaa
open Go Go.RowKit

/-- A graph of the call's own, and an error. -/
def RetGO (g : Grf) (err : Int) (w : World) (e : Ending) (w' : World) : Prop := ∃ vn vt, e = .returned (.tuple #[.agg #[vn, vt], errV err]) ∧ (∃ xs, OwnG w' w.heap.size vn vt g xs) ∧ Below w.heap.size w w'
theorem RetGO.r {g : Grf} {err : Int} {w w' : World} {e : Ending} (h : RetGO g err w e w') : RetG g err w e w' := by
  obtain ⟨vn, vt, h1, ⟨xs, h2⟩, h3⟩ := h
  exact ⟨vn, vt, h1, h2.r, h3⟩
/-- A right graph, where it lies, can be owned and worked on. -/
theorem grf_work {g : Grf} (h : grfE g = 0) : chain nodLt g.nodes = true ∧ chain tieLt g.ties = true ∧ g.nodes.length ≤ 60 ∧ g.ties.length ≤ 120 ∧ ∀ d ∈ g.nodes, d.props.length ≤ 1000 := by
  obtain ⟨h1, h2, h3, h4⟩ := grf_ok h
  exact ⟨h3, (grf_ties h).1, h1, h2, fun d hd => by have := (rec_ok (nod_rec' (h4 d hd).2)).1; omega⟩
theorem cut_facts {w W3 : World} {B b7 b2 : Nat} {A4 A5 : Option Addr} {n4 c4 n5 c5 : Nat} {g : Grf} {P : Prop} (hN7 : W3.heap[b7]? = some (.cells #[.slice none 0 0, .slice none 0 0] 25 (0, 0))) (hN2 : W3.heap[b2]? = some (.cells #[.slice none 0 0, .slice none 0 0] 25 (0, 0)))
    (hlt : b2 < b7) (how : P → ∃ xs, OwnG W3 B (.slice A4 n4 c4) (.slice A5 n5 c5) g xs) (hB : Below w.heap.size w W3) (hb : w.heap.size ≤ b2) :
    ((W3.setCell ⟨b7, 0, none⟩ (.slice A4 n4 c4)).setCell ⟨b7, 1, none⟩ (.slice A5 n5 c5)).heap[b7]? = some (.cells #[.slice A4 n4 c4, .slice A5 n5 c5] 25 (0, 0)) ∧
    ((W3.setCell ⟨b7, 0, none⟩ (.slice A4 n4 c4)).setCell ⟨b7, 1, none⟩ (.slice A5 n5 c5)).heap[b2]? = some (.cells #[.slice none 0 0, .slice none 0 0] 25 (0, 0)) ∧
    (P → ∃ xs, OwnG ((W3.setCell ⟨b7, 0, none⟩ (.slice A4 n4 c4)).setCell ⟨b7, 1, none⟩ (.slice A5 n5 c5)) B (.slice A4 n4 c4) (.slice A5 n5 c5) g xs) ∧
    Below w.heap.size w ((W3.setCell ⟨b7, 0, none⟩ (.slice A4 n4 c4)).setCell ⟨b7, 1, none⟩ (.slice A5 n5 c5)) := by
  have p7 := setCell_block (setCell_block hN7 0 (.slice A4 n4 c4)) 1 (.slice A5 n5 c5)
  refine ⟨p7, ?_, fun h => ?_, (hB.setCell (p := ⟨b7, 0, none⟩) (by show w.heap.size ≤ b7; omega) _).setCell (p := ⟨b7, 1, none⟩) (by show w.heap.size ≤ b7; omega) _⟩
  · rw [Below.heap_setCell _ _ _ _ (by show b2 ≠ b7; omega), Below.heap_setCell _ _ _ _ (by show b2 ≠ b7; omega)]; exact hN2
  · obtain ⟨zs, hz⟩ := how h
    have hS4 : ∀ T, 25 ≠ T → Same T W3 ((W3.setCell ⟨b7, 0, none⟩ (.slice A4 n4 c4)).setCell ⟨b7, 1, none⟩ (.slice A5 n5 c5)) := fun T hT => (Same.setCell (p := ⟨b7, 0, none⟩) hN7 hT _).trans (Same.setCell (p := ⟨b7, 1, none⟩) (setCell_block hN7 0 _) hT _)
    exact ⟨zs, hz.same (hS4 _ (by decide)) (hS4 _ (by decide)) (hS4 _ (by decide))⟩
set_option maxRecDepth 100000 in
set_option maxHeartbeats 16000000 in
theorem Do_own (g : Grf) (o : Opr) (vn vt vr : Value) (w : World) (hG : GrfR w vn vt g) (hO : OprR w vr o) :
    Calls Try.prog 5 #[.agg #[vn, vt], .agg (oprCells o vr)] w (RetGO (doG g o) (doE g o) w) := by
  obtain ⟨An, cn, rfl, _, _⟩ := hG.1.form
  obtain ⟨At, ct, rfl, _, _⟩ := hG.2.form
  obtain ⟨Ar, cr, rfl, _, _⟩ := hO.r.form
  have HDE : Hid (doE g o = if grfE g = 0 then opE g o else grfE g) := rfl
  have HDG : Hid (doG g o = if doE g o = 0 then opG g o else ⟨[], []⟩) := rfl
  obtain ⟨what, node, prop, tie⟩ := o
  have hO' : OprR w (.slice Ar node.props.length cr) ⟨what, node, prop, tie⟩ := hO
  clear hO
  show Calls Try.prog 5 #[.agg #[.slice An g.nodes.length cn, .slice At g.ties.length ct], .agg #[.int .i64 what, .int .i64 node.id, .string node.kind, .slice Ar node.props.length cr, .string prop.name, .int .i64 prop.v.ty, .int .i64 prop.v.n, .string prop.v.s, .string tie.bond, .int .i64 tie.src, .int .i64 tie.dst]] w _
  obtain ⟨W0, hW0⟩ : ∃ W0, W0 = (((w.alloc (.cells #[.slice An g.nodes.length cn, .slice At g.ties.length ct] 25)).alloc (.cells #[.int .i64 what, .int .i64 node.id, .string node.kind, .slice Ar node.props.length cr, .string prop.name, .int .i64 prop.v.ty, .int .i64 prop.v.n, .string prop.v.s, .string tie.bond, .int .i64 tie.src, .int .i64 tie.dst] 42)).alloc (.cells #[.slice none 0 0, .slice none 0 0] 25)) := ⟨_, rfl⟩
  have hb0 : Below w.heap.size w W0 := by rw [hW0]; exact (((Below.refl _ _).alloc (Nat.le_refl _) _).alloc (by simp) _).alloc (by simp; omega) _
  have g0 : W0.heap[w.heap.size]? = some (.cells #[.slice An g.nodes.length cn, .slice At g.ties.length ct] 25 (0, 0)) := by
    rw [hW0, Below.heap_alloc _ _ _ (by simp; omega), Below.heap_alloc _ _ _ (by simp)]; exact heap_alloc_new _ _
  have g1 : W0.heap[w.heap.size + 1]? = some (.cells #[.int .i64 what, .int .i64 node.id, .string node.kind, .slice Ar node.props.length cr, .string prop.name, .int .i64 prop.v.ty, .int .i64 prop.v.n, .string prop.v.s, .string tie.bond, .int .i64 tie.src, .int .i64 tie.dst] 42 (0, 0)) := by
    rw [hW0, Below.heap_alloc _ _ _ (by simp)]
    have := heap_alloc_new (w.alloc (.cells #[.slice An g.nodes.length cn, .slice At g.ties.length ct] 25)) (.cells #[.int .i64 what, .int .i64 node.id, .string node.kind, .slice Ar node.props.length cr, .string prop.name, .int .i64 prop.v.ty, .int .i64 prop.v.n, .string prop.v.s, .string tie.bond, .int .i64 tie.src, .int .i64 tie.dst] 42); simpa using this
  have g2 : W0.heap[w.heap.size + 1 + 1]? = some (.cells #[.slice none 0 0, .slice none 0 0] 25 (0, 0)) := by
    have := heap_alloc_new ((w.alloc (.cells #[.slice An g.nodes.length cn, .slice At g.ties.length ct] 25)).alloc (.cells #[.int .i64 what, .int .i64 node.id, .string node.kind, .slice Ar node.props.length cr, .string prop.name, .int .i64 prop.v.ty, .int .i64 prop.v.n, .string prop.v.s, .string tie.bond, .int .i64 tie.src, .int .i64 tie.dst] 42)) (.cells #[.slice none 0 0, .slice none 0 0] 25); rw [hW0]; simpa using this
  have hsz : W0.heap.size = w.heap.size + 3 := by rw [hW0]; simp
  have hW0' := hW0.symm
  have HG := Lib.hid (hG.below hb0)
  have HO := Lib.hid (hO'.below hb0)
  have hck := grfCheck_any g _ _ W0 (hG.below hb0)
  have x0 := block_cell g0 0
  have x1 := block_cell g0 1
  clear hG hO' hW0
  go_enter Try.func5, Try.ntmps5
  go_wp2_with fail
  refine hck.mono ?_
  clear hck
  rintro e w1 ⟨rfl, hb1⟩
  have hB1 := hb0.trans (hb1.mono hb0.size)
  have m0 := (hb1.block _ (Array.getElem?_eq_some_iff.1 g0).1).trans g0
  have m1 := (hb1.block _ (Array.getElem?_eq_some_iff.1 g1).1).trans g1
  have m2 := (hb1.block _ (Array.getElem?_eq_some_iff.1 g2).1).trans g2
  have hs1 := hb1.size
  clear g0 g1 g2 x0 x1
  by_cases he : grfE g = 0
  case neg =>
    have HEE : Hid (errV (doE g ⟨what, node, prop, tie⟩) = .iface 58 (.int .i64 (grfE g)) ∧ doG g ⟨what, node, prop, tie⟩ = ⟨[], []⟩) := by
      have h0 : doE g ⟨what, node, prop, tie⟩ = grfE g := by rw [HDE.out, if_neg he]
      exact ⟨by rw [h0]; exact errV_some he, by rw [HDG.out, h0, if_neg he]⟩
    rw [errV_some he]
    clear he HDE HDG
    have a5 := block_free m2 0
    have a6 := block_free m2 1
    have a7 := block_cell m2 0
    have a8 := block_cell m2 1
    have p4 := setCell_block (setCell_block m2 0 (.slice none 0 0)) 1 (.slice none 0 0)
    have HP4 := Lib.hid p4
    clear p4 m0 m1 m2
    go_wp2_with fail
    have k2 := block_cell HP4.out 0
    have k3 := block_cell HP4.out 1
    exact bodyPost_ret (v := .tuple #[.agg #[.slice none 0 0, .slice none 0 0], .iface 58 (.int .i64 (grfE g))]) (by simp [results, Try.results5, go_sem, k2, k3]) rfl
      ⟨.slice none 0 0, .slice none 0 0, by rw [HEE.out.1], by rw [HEE.out.2]; exact ⟨[], OwnG.nil⟩, (hB1.setCell (p := ⟨w.heap.size + 1 + 1, 0, none⟩) (by show w.heap.size ≤ w.heap.size + 1 + 1; omega) _).setCell (p := ⟨w.heap.size + 1 + 1, 1, none⟩) (by show w.heap.size ≤ w.heap.size + 1 + 1; omega) _⟩
  obtain ⟨k1, k2, k3, k4, k5⟩ := grf_work he
  have HDE2 : Hid (doE g ⟨what, node, prop, tie⟩ = opE g ⟨what, node, prop, tie⟩) := by unfold Hid; rw [HDE.out, if_pos he]
  rw [errV_zero he]
  have x0 := block_cell m0 0
  have x1 := block_cell m0 1
  have y0 := block_cell m1 0
  have y1 := block_cell m1 1
  have y2 := block_cell m1 2
  have y3 := block_cell m1 3
  have y4 := block_cell m1 4
  have y5 := block_cell m1 5
  have y6 := block_cell m1 6
  have y7 := block_cell m1 7
  have y8 := block_cell m1 8
  have y9 := block_cell m1 9
  have y10 := block_cell m1 10
  have hZ : Below w1.drew.heap.size w1.drew (w1.alloc (.cells #[.slice none 0 0, .slice none 0 0] 25)).drew := ((Below.refl w1.drew.heap.size w1.drew).alloc (Nat.le_refl _) (.cells #[.slice none 0 0, .slice none 0 0] 25) : Below w1.drew.heap.size w1.drew (w1.drew.alloc (.cells #[.slice none 0 0, .slice none 0 0] 25)))
  have hD : Below w1.heap.size w1 w1.drew := (Below.refl _ _).drew
  have hown := own_any g _ _ w1.drew ((HG.out.below hb1).below hD) (by omega) (by omega) k5
  have hown2 := own_any g _ _ ((w1.alloc (.cells #[.slice none 0 0, .slice none 0 0] 25)).drew) (((HG.out.below hb1).below hD).below hZ) (by omega) (by omega) k5
  have HO1 := Lib.hid (HO.out.below hb1)
  have m3 : (w1.alloc (.cells #[.slice none 0 0, .slice none 0 0] 25)).heap[w.heap.size + 1]? = _ := (hZ.block _ (Array.getElem?_eq_some_iff.1 m1).1).trans m1
  have s0 := block_cell m3 0
  have s1 := block_cell m3 1
  have s2 := block_cell m3 2
  have s3 := block_cell m3 3
  have s4 := block_cell m3 4
  have s5 := block_cell m3 5
  have s6 := block_cell m3 6
  have s7 := block_cell m3 7
  have s8 := block_cell m3 8
  have s9 := block_cell m3 9
  have s10 := block_cell m3 10
  have m4 : (w1.alloc (.cells #[.slice none 0 0, .slice none 0 0] 25)).heap[w.heap.size]? = _ := (hZ.block _ (Array.getElem?_eq_some_iff.1 m0).1).trans m0
  have t0 := block_cell m4 0
  have t1 := block_cell m4 1
  clear m3 m4
  have M1 := Lib.hid m1
  have M2 := Lib.hid m2
  have hzs : (w1.alloc (.cells #[.slice none 0 0, .slice none 0 0] 25)).drew.heap.size = w1.heap.size + 1 := by show (w1.alloc (.cells #[.slice none 0 0, .slice none 0 0] 25)).heap.size = w1.heap.size + 1; simp
  have hds : w1.drew.heap.size = w1.heap.size := rfl
  have HDO : Hid (∀ (un ut : Value) (ys : List Value) (B : Nat) (W : World), B ≤ W.heap.size → OwnG W B un ut g ys → Below w1.heap.size w1 W →
      Calls Try.prog 11 #[.agg #[un, ut], .agg #[.int .i64 what, .int .i64 node.id, .string node.kind, .slice Ar node.props.length cr, .string prop.name, .int .i64 prop.v.ty, .int .i64 prop.v.n, .string prop.v.s, .string tie.bond, .int .i64 tie.src, .int .i64 tie.dst]] W (RetOG B un ut (opG g ⟨what, node, prop, tie⟩) (opE g ⟨what, node, prop, tie⟩) W)) :=
    fun un ut ys B W h1 h2 h3 => do_any g ⟨what, node, prop, tie⟩ un ut (.slice Ar node.props.length cr) ys B W h1 h2 (HO1.out.below h3) k1 k2 (by omega) (by omega)
  clear he m0 m1 m2 HDE
  go_upto_region 4 with fail
  go_cut [7, 8] (fun p z wx => ∃ (b7 : Nat) (A4 : Option Addr) (n4 c4 : Nat) (A5 : Option Addr) (n5 c5 : Nat), p = .pointer (some ⟨b7, 0, none⟩) ∧ z = errV (opE g ⟨what, node, prop, tie⟩) ∧ wx.heap[b7]? = some (.cells #[.slice A4 n4 c4, .slice A5 n5 c5] 25 (0, 0)) ∧
    wx.heap[w.heap.size + 1 + 1]? = some (.cells #[.slice none 0 0, .slice none 0 0] 25 (0, 0)) ∧ (opE g ⟨what, node, prop, tie⟩ = 0 → ∃ xs, OwnG wx w1.heap.size (.slice A4 n4 c4) (.slice A5 n5 c5) (opG g ⟨what, node, prop, tie⟩) xs) ∧ Below w.heap.size w wx ∧ w.heap.size + 1 + 1 < b7)
  case first =>
    go_region_law
      (first
        | (refine step_callx rfl 12 #[.agg #[.slice An g.nodes.length cn, .slice At g.ties.length ct]] (by kernel_rfl) hown ?_
           rintro e w2 ⟨un, ut, ys, rfl, ho2, hb2⟩
           refine ⟨_, rfl, ?_⟩
           have hb2' := hD.trans hb2
           have hs2 := hb2.size
           have HO2 := Lib.hid ho2
           obtain ⟨A2, c2, rfl, _, _⟩ := ho2.n.form
           obtain ⟨A3, c3, rfl, _, _⟩ := ho2.t.form
           have hm1 := (hb2'.block _ (Array.getElem?_eq_some_iff.1 M1.out).1).trans M1.out
           have hm1' := hm1
           have q0 := block_cell hm1 0
           have q1 := block_cell hm1 1
           have q2 := block_cell hm1 2
           have q3 := block_cell hm1 3
           have q4 := block_cell hm1 4
           have q5 := block_cell hm1 5
           have q6 := block_cell hm1 6
           have q7 := block_cell hm1 7
           have q8 := block_cell hm1 8
           have q9 := block_cell hm1 9
           have q10 := block_cell hm1 10
           clear hm1
           have hx2 : Below w2.heap.size w2 (w2.alloc (.cells #[.slice none 0 0, .slice none 0 0] 25)) := (Below.refl _ _).alloc (Nat.le_refl _) _
           have hm2 := (hx2.block _ (Array.getElem?_eq_some_iff.1 hm1').1).trans hm1'
           have r0 := block_cell hm2 0
           have r1 := block_cell hm2 1
           have r2 := block_cell hm2 2
           have r3 := block_cell hm2 3
           have r4 := block_cell hm2 4
           have r5 := block_cell hm2 5
           have r6 := block_cell hm2 6
           have r7 := block_cell hm2 7
           have r8 := block_cell hm2 8
           have r9 := block_cell hm2 9
           have r10 := block_cell hm2 10
           clear hm2 hm1'
           have hdo := HDO.out _ _ ys w1.drew.heap.size w2 hs2 ho2 hb2'
           have hdo2 := HDO.out _ _ ys w1.drew.heap.size (w2.alloc (.cells #[.slice none 0 0, .slice none 0 0] 25)) (by simp; omega) (ho2.below hx2) (hb2'.trans (hx2.mono hb2'.size))
           have hordA : True := trivial)
        | (refine step_callx rfl 12 #[.agg #[.slice An g.nodes.length cn, .slice At g.ties.length ct]] (by kernel_rfl) hown2 ?_
           rintro e w2 ⟨un, ut, ys, rfl, ho2, hb2⟩
           refine ⟨_, rfl, ?_⟩
           have hb2' := hD.trans (hZ.trans (hb2.mono (by omega)))
           have hs2 := hb2.size
           have HO2 := Lib.hid ho2
           obtain ⟨A2, c2, rfl, _, _⟩ := ho2.n.form
           obtain ⟨A3, c3, rfl, _, _⟩ := ho2.t.form
           have hm1 := (hb2'.block _ (Array.getElem?_eq_some_iff.1 M1.out).1).trans M1.out
           have hm1' := hm1
           have q0 := block_cell hm1 0
           have q1 := block_cell hm1 1
           have q2 := block_cell hm1 2
           have q3 := block_cell hm1 3
           have q4 := block_cell hm1 4
           have q5 := block_cell hm1 5
           have q6 := block_cell hm1 6
           have q7 := block_cell hm1 7
           have q8 := block_cell hm1 8
           have q9 := block_cell hm1 9
           have q10 := block_cell hm1 10
           clear hm1
           have hdo := HDO.out _ _ ys _ w2 hs2 ho2 hb2'
           have hordC : True := trivial)
        | (have _t := hordA
           refine step_callx rfl 11 #[.agg #[.slice A2 g.nodes.length c2, .slice A3 g.ties.length c3], .agg #[.int .i64 what, .int .i64 node.id, .string node.kind, .slice Ar node.props.length cr, .string prop.name, .int .i64 prop.v.ty, .int .i64 prop.v.n, .string prop.v.s, .string tie.bond, .int .i64 tie.src, .int .i64 tie.dst]] (by kernel_rfl) hdo ?_
           rintro e w3 ⟨un, ut, rfl, how, ⟨A4, n4, c4, A5, n5, c5, rfl, rfl⟩, hB3, hK3⟩
           refine ⟨_, rfl, ?_⟩
           have hks := hK3.s
           have hx3 : Below w3.heap.size w3 (w3.alloc (.cells #[.slice A4 n4 c4, .slice A5 n5 c5] 25)) := (Below.refl _ _).alloc (Nat.le_refl _) _
           have hN7 : (w3.alloc (.cells #[.slice A4 n4 c4, .slice A5 n5 c5] 25)).heap[w3.heap.size]? = some (.cells #[.slice A4 n4 c4, .slice A5 n5 c5] 25 (0, 0)) := heap_alloc_new _ _
           have hN2 : (w3.alloc (.cells #[.slice A4 n4 c4, .slice A5 n5 c5] 25)).heap[w.heap.size + 1 + 1]? = some (.cells #[.slice none 0 0, .slice none 0 0] 25 (0, 0)) := by
             rw [Below.heap_alloc _ _ _ (by omega)]
             exact (hB3.block _ (by omega)).trans ((hb2'.block _ (by omega)).trans M2.out)
           have how' : opE g ⟨what, node, prop, tie⟩ = 0 → ∃ xs, OwnG (w3.alloc (.cells #[.slice A4 n4 c4, .slice A5 n5 c5] 25)) w1.heap.size (.slice A4 n4 c4) (.slice A5 n5 c5) (opG g ⟨what, node, prop, tie⟩) xs := fun h => by
             obtain ⟨zs, hz⟩ := how h
             exact ⟨zs, hz.below hx3⟩
           have hBW : Below w.heap.size w (w3.alloc (.cells #[.slice A4 n4 c4, .slice A5 n5 c5] 25)) := (hB1.trans ((hb2'.trans (hB3.mono (by omega))).mono hB1.size)).alloc (by omega) _
           have hb7s : w.heap.size + 1 + 1 < w3.heap.size := by omega
           have hfin := And.intro hN7 (And.intro hN2 (And.intro how' hBW))
           clear hordA hdo hdo2 hx3 how hK3 hB3 hBW how' hN7 hN2)
        | (have _t := hordA
           refine step_callx rfl 11 #[.agg #[.slice A2 g.nodes.length c2, .slice A3 g.ties.length c3], .agg #[.int .i64 what, .int .i64 node.id, .string node.kind, .slice Ar node.props.length cr, .string prop.name, .int .i64 prop.v.ty, .int .i64 prop.v.n, .string prop.v.s, .string tie.bond, .int .i64 tie.src, .int .i64 tie.dst]] (by kernel_rfl) hdo2 ?_
           rintro e w3 ⟨un, ut, rfl, how, ⟨A4, n4, c4, A5, n5, c5, rfl, rfl⟩, hB3, hK3⟩
           refine ⟨_, rfl, ?_⟩
           have hks := hK3.s
           have hxs : (w2.alloc (.cells #[.slice none 0 0, .slice none 0 0] 25)).heap.size = w2.heap.size + 1 := by simp
           have hN7 : w3.heap[w2.heap.size]? = some (.cells #[.slice none 0 0, .slice none 0 0] 25 (0, 0)) := (hK3.k w2.heap.size (by omega) (fun e => by have := (HO2.out.n.lt _ e.symm).2; omega) (fun e => by have := (HO2.out.t.lt _ e.symm).2; omega)).trans (heap_alloc_new _ _)
           have hN2 : w3.heap[w.heap.size + 1 + 1]? = some (.cells #[.slice none 0 0, .slice none 0 0] 25 (0, 0)) := by
             refine (hB3.block _ (by omega)).trans ?_
             rw [Below.heap_alloc _ _ _ (by omega)]
             exact (hb2'.block _ (by omega)).trans M2.out
           have how' : opE g ⟨what, node, prop, tie⟩ = 0 → ∃ xs, OwnG w3 w1.heap.size (.slice A4 n4 c4) (.slice A5 n5 c5) (opG g ⟨what, node, prop, tie⟩) xs := how
           have hBW : Below w.heap.size w w3 := hB1.trans (((hb2'.alloc (by omega) _).trans (hB3.mono (by omega))).mono hB1.size)
           have hb7s : w.heap.size + 1 + 1 < w2.heap.size := by omega
           have a0 := block_free hN7 0
           have a1 := block_free hN7 1
           have a2 := block_cell hN7 0
           have a3 := block_cell hN7 1
           have hfin := cut_facts (g := opG g ⟨what, node, prop, tie⟩) (P := opE g ⟨what, node, prop, tie⟩ = 0) hN7 hN2 hb7s how' hBW (by omega)
           clear hordA hdo hdo2 how hK3 hB3 hBW how' hN7 hN2)
        | (have _t := hordC
           refine step_callx rfl 11 #[.agg #[.slice A2 g.nodes.length c2, .slice A3 g.ties.length c3], .agg #[.int .i64 what, .int .i64 node.id, .string node.kind, .slice Ar node.props.length cr, .string prop.name, .int .i64 prop.v.ty, .int .i64 prop.v.n, .string prop.v.s, .string tie.bond, .int .i64 tie.src, .int .i64 tie.dst]] (by kernel_rfl) hdo ?_
           rintro e w3 ⟨un, ut, rfl, how, ⟨A4, n4, c4, A5, n5, c5, rfl, rfl⟩, hB3, hK3⟩
           refine ⟨_, rfl, ?_⟩
           have hks := hK3.s
           have hN7 : w3.heap[w1.heap.size]? = some (.cells #[.slice none 0 0, .slice none 0 0] 25 (0, 0)) := (hB3.block _ (by omega)).trans ((hb2.block _ (by omega)).trans (heap_alloc_new w1.drew _))
           have hN2 : w3.heap[w.heap.size + 1 + 1]? = some (.cells #[.slice none 0 0, .slice none 0 0] 25 (0, 0)) := (hB3.block _ (by omega)).trans ((hb2'.block _ (by omega)).trans M2.out)
           have how' : opE g ⟨what, node, prop, tie⟩ = 0 → ∃ xs, OwnG w3 w1.heap.size (.slice A4 n4 c4) (.slice A5 n5 c5) (opG g ⟨what, node, prop, tie⟩) xs := fun h => by
             obtain ⟨zs, hz⟩ := how h
             exact ⟨zs, hz.mono (by omega)⟩
           have hBW : Below w.heap.size w w3 := hB1.trans ((hb2'.trans (hB3.mono (by omega))).mono hB1.size)
           have hb7s : w.heap.size + 1 + 1 < w1.heap.size := by omega
           have a0 := block_free hN7 0
           have a1 := block_free hN7 1
           have a2 := block_cell hN7 0
           have a3 := block_cell hN7 1
           have hfin := cut_facts (g := opG g ⟨what, node, prop, tie⟩) (P := opE g ⟨what, node, prop, tie⟩ = 0) hN7 hN2 hb7s how' hBW (by omega)
           clear hordC hdo how hK3 hB3 hBW how' hN7 hN2))
    all_goals
      go_wp2_with fail
      go_meet
      exact ⟨_, _, _, _, _, _, _, rfl, rfl, hfin.1, hfin.2.1, hfin.2.2.1, hfin.2.2.2, hb7s⟩
  case rest =>
  obtain ⟨b7, A4, n4, c4, A5, n5, c5, rfl, rfl, hp7, hp2, hw4, hBW4, hb7s⟩ := hcut
  have HOW4 := Lib.hid hw4
  have p2 := hp2
  have z0 := block_cell hp7 0
  have z1 := block_cell hp7 1
  have a5 := block_free p2 0
  have a6 := block_free p2 1
  have a7 := block_cell p2 0
  have a8 := block_cell p2 1
  clear hp2 hp7 hw4
  by_cases hz : opE g ⟨what, node, prop, tie⟩ = 0
  · have HEE : Hid (errV (doE g ⟨what, node, prop, tie⟩) = .nilIface ∧ doG g ⟨what, node, prop, tie⟩ = opG g ⟨what, node, prop, tie⟩) := by
      have h0 : doE g ⟨what, node, prop, tie⟩ = 0 := by rw [HDE2.out]; exact hz
      exact ⟨by rw [h0]; rfl, by rw [HDG.out, if_pos h0]⟩
    obtain ⟨zs, hzs⟩ := HOW4.out hz
    rw [errV_zero hz]
    have p3 := setCell_block p2 0 (.slice A4 n4 c4)
    have p4 := setCell_block p3 1 (.slice A5 n5 c5)
    have HP4 := Lib.hid p4
    have HFIN : Hid (OwnG ((wc.setCell ⟨w.heap.size + 1 + 1, 0, none⟩ (.slice A4 n4 c4)).setCell ⟨w.heap.size + 1 + 1, 1, none⟩ (.slice A5 n5 c5)) w1.heap.size (.slice A4 n4 c4) (.slice A5 n5 c5) (opG g ⟨what, node, prop, tie⟩) zs) := by
      have hS5 : ∀ T, 25 ≠ T → Same T wc ((wc.setCell ⟨w.heap.size + 1 + 1, 0, none⟩ (.slice A4 n4 c4)).setCell ⟨w.heap.size + 1 + 1, 1, none⟩ (.slice A5 n5 c5)) := fun T hT => (Same.setCell (p := ⟨w.heap.size + 1 + 1, 0, none⟩) p2 hT _).trans (Same.setCell (p := ⟨w.heap.size + 1 + 1, 1, none⟩) p3 hT _)
      exact hzs.same (hS5 _ (by decide)) (hS5 _ (by decide)) (hS5 _ (by decide))
    clear hz hzs p2 p3 p4 HOW4
    go_wp2_with fail
    have k2 := block_cell HP4.out 0
    have k3 := block_cell HP4.out 1
    exact bodyPost_ret (v := .tuple #[.agg #[.slice A4 n4 c4, .slice A5 n5 c5], .nilIface]) (by simp [results, Try.results5, go_sem, k2, k3]) rfl
      ⟨.slice A4 n4 c4, .slice A5 n5 c5, by rw [HEE.out.1], by rw [HEE.out.2]; exact ⟨_, HFIN.out.mono hB1.size⟩, (hBW4.setCell (p := ⟨w.heap.size + 1 + 1, 0, none⟩) (by show w.heap.size ≤ w.heap.size + 1 + 1; omega) _).setCell (p := ⟨w.heap.size + 1 + 1, 1, none⟩) (by show w.heap.size ≤ w.heap.size + 1 + 1; omega) _⟩
  · have HEE : Hid (errV (doE g ⟨what, node, prop, tie⟩) = .iface 58 (.int .i64 (opE g ⟨what, node, prop, tie⟩)) ∧ doG g ⟨what, node, prop, tie⟩ = ⟨[], []⟩) := by
      have h0 : doE g ⟨what, node, prop, tie⟩ = opE g ⟨what, node, prop, tie⟩ := HDE2.out
      exact ⟨by rw [h0]; exact errV_some hz, by rw [HDG.out, h0, if_neg hz]⟩
    rw [errV_some hz]
    have p4 := setCell_block (setCell_block p2 0 (.slice none 0 0)) 1 (.slice none 0 0)
    have HP4 := Lib.hid p4
    clear hz p2 p4 HOW4
    go_wp2_with fail
    have k2 := block_cell HP4.out 0
    have k3 := block_cell HP4.out 1
    exact bodyPost_ret (v := .tuple #[.agg #[.slice none 0 0, .slice none 0 0], .iface 58 (.int .i64 (opE g ⟨what, node, prop, tie⟩))]) (by simp [results, Try.results5, go_sem, k2, k3]) rfl
      ⟨.slice none 0 0, .slice none 0 0, by rw [HEE.out.1], by rw [HEE.out.2]; exact ⟨[], OwnG.nil⟩, (hBW4.setCell (p := ⟨w.heap.size + 1 + 1, 0, none⟩) (by show w.heap.size ≤ w.heap.size + 1 + 1; omega) _).setCell (p := ⟨w.heap.size + 1 + 1, 1, none⟩) (by show w.heap.size ≤ w.heap.size + 1 + 1; omega) _⟩
theorem Do_any (g : Grf) (o : Opr) (vn vt vr : Value) (w : World) (hG : GrfR w vn vt g) (hO : OprR w vr o) :
    Calls Try.prog 5 #[.agg #[vn, vt], .agg (oprCells o vr)] w (RetG (doG g o) (doE g o) w) := (Do_own g o vn vt vr w hG hO).mono fun _ _ h => h.r
end Go.Proofs.Ytfjnkidblalckaa

/- Contracts: kinsame.Graph, graph.Equal, slices.EqualFunc at nodes, graph.Same. No condition. -/
namespace Go.Proofs.Ytfjnkidblalckaa
open Go Go.RowKit



theorem pair_step {D : Type} {a b : List D} {k : Nat} {x y : D} (h : ∀ j x y, j < k → a[j]? = some x → b[j]? = some y → x = y) (hx : a[k]? = some x) (hy : b[k]? = some y) (hq : x = y) : ∀ j x y, j < k + 1 → a[j]? = some x → b[j]? = some y → x = y := fun j p q hj hp hq2 => by
  by_cases hjk : j = k
  · subst hjk
    have e1 := hx.symm.trans hp
    have e2 := hy.symm.trans hq2
    injection e1 with e1; injection e2 with e2
    rw [← e1, ← e2]; exact hq
  · exact h j p q (by omega) hp hq2
theorem pair_no {D : Type} {a b : List D} {k : Nat} {x y : D} (hx : a[k]? = some x) (hy : b[k]? = some y) (hq : ¬ x = y) : ¬ a = b := fun e => by
  rw [e, hy] at hx
  injection hx with e1
  exact hq e1.symm
end Go.Proofs.Ytfjnkidblalckaa

/- Contracts: graph.Equal, slices.EqualFunc at nodes, graph.Same. No condition. -/
namespace Go.Proofs.Ytfjnkidblalckaa
open Go Go.RowKit




theorem nod_eqB2 (a b : Nod) : decide (a = b) = (decide (a.id = b.id) && decide (a.kind = b.kind) && decide (a.props = b.props)) := by
  rw [nod_eqB]
  cases decide (a.props = b.props) <;> cases decide (a.id = b.id) <;> cases decide (a.kind = b.kind) <;> rfl
set_option maxHeartbeats 2000000 in
theorem gequal_any (a b : Nod) (u1 u2 : Value) (w : World) (f1 : Sl prpL w u1 a.props) (f2 : Sl prpL w u2 b.props) :
    Calls Try.prog 14 #[.agg #[.int .i64 a.id, .string a.kind, u1], .agg #[.int .i64 b.id, .string b.kind, u2]] w fun e w' => e = .returned (.bool (decide (a = b))) ∧ Below w.heap.size w w' := by
  obtain ⟨A1, c1, rfl, _, _⟩ := f1.form
  obtain ⟨A2, c2, rfl, _, _⟩ := f2.form
  obtain ⟨W0, hW0⟩ : ∃ W0, W0 = (w.alloc (.cells #[.int .i64 a.id, .string a.kind, .slice A1 a.props.length c1] 30)).alloc (.cells #[.int .i64 b.id, .string b.kind, .slice A2 b.props.length c2] 30) := ⟨_, rfl⟩
  have hb0 : Below w.heap.size w W0 := by rw [hW0]; exact ((Below.refl _ _).alloc (Nat.le_refl _) _).alloc (by simp) _
  have g0 : W0.heap[w.heap.size]? = some (.cells #[.int .i64 a.id, .string a.kind, .slice A1 a.props.length c1] 30 (0, 0)) := by
    rw [hW0, Below.heap_alloc _ _ _ (by simp)]; exact heap_alloc_new _ _
  have g1 : W0.heap[w.heap.size + 1]? = some (.cells #[.int .i64 b.id, .string b.kind, .slice A2 b.props.length c2] 30 (0, 0)) := by
    have := heap_alloc_new (w.alloc (.cells #[.int .i64 a.id, .string a.kind, .slice A1 a.props.length c1] 30)) (.cells #[.int .i64 b.id, .string b.kind, .slice A2 b.props.length c2] 30); rw [hW0]; simpa using this
  have hW0' := hW0.symm
  have hw0 := hb0.size
  have x0 := block_cell g0 0
  have x1 := block_cell g0 1
  have x2 := block_cell g0 2
  have y0 := block_cell g1 0
  have y1 := block_cell g1 1
  have y2 := block_cell g1 2
  have hr := eqPrps_any a.props b.props _ _ W0 (f1.below hb0) (f2.below hb0)
  have HF := Lib.hid (nod_eqB2 a b)
  have hkb : (a.kind.toList == b.kind.toList) = decide (a.kind = b.kind) := bytes_beq a.kind b.kind
  clear f1 f2 g0 g1 hW0
  generalize decide (a.props = b.props) = q at *
  generalize decide (a = b) = E at *
  by_cases h1 : a.id = b.id
  case neg =>
    have HE : Hid (E = false) := by unfold Hid; rw [HF.out, decide_eq_false h1]; rfl
    have h1b : (a.id == b.id) = false := by rw [beq_eq_false_iff_ne]; exact h1
    clear HF h1
    go_enter Try.func14, Try.ntmps14
    go_wp2_with fail
    go_ret
    exact ⟨by rw [HE.out]; rfl, hb0⟩
  have h1b : (a.id == b.id) = true := by rw [beq_iff_eq]; exact h1
  by_cases h2 : a.kind = b.kind
  case neg =>
    have HE : Hid (E = false) := by unfold Hid; rw [HF.out, decide_eq_true h1, decide_eq_false h2]; rfl
    rw [decide_eq_false h2] at hkb
    have hkc : ¬ a.kind.toList = b.kind.toList := by rw [bytes_eq]; exact h2
    clear HF h1 h2
    go_enter Try.func14, Try.ntmps14
    go_wp2_with fail
    go_ret
    exact ⟨by rw [HE.out]; rfl, hb0⟩
  have HE : Hid (E = q) := by unfold Hid; rw [HF.out, decide_eq_true h1, decide_eq_true h2]; rfl
  rw [decide_eq_true h2] at hkb
  have hkc : a.kind.toList = b.kind.toList := by rw [h2]
  clear HF h1 h2
  go_enter Try.func14, Try.ntmps14
  go_wp2_with fail
  refine hr.mono ?_
  clear hr
  rintro e w1 ⟨rfl, hb1⟩
  go_wp2_with fail
  go_ret
  exact ⟨by rw [HE.out]; rfl, hb0.trans (hb1.mono hw0)⟩
set_option maxRecDepth 100000 in
set_option maxHeartbeats 4000000 in
theorem eqNods_any (a b : List Nod) (v1 v2 : Value) (w : World) (h1 : Sl nodL w v1 a) (h2 : Sl nodL w v2 b) :
    Calls Try.prog 13 #[v1, v2, .func (.func 14) #[] #[]] w fun e w' => e = .returned (.bool (decide (a = b))) ∧ Below w.heap.size w w' := by
  obtain ⟨A1, c1, rfl, _, hm1⟩ := h1.form
  obtain ⟨A2, c2, rfl, _, hm2⟩ := h2.form
  unfold maxLen at hm1 hm2
  have HNN : Hid (¬ a = b → decide (a = b) = false) := fun h => decide_eq_false h
  have HEQ : Hid (a = b → decide (a = b) = true) := fun h => decide_eq_true h
  have H1 := Lib.hid h1
  have H2 := Lib.hid h2
  clear h1 h2
  generalize decide (a = b) = E at *
  by_cases hl : a.length = b.length
  case neg =>
    have HE : Hid (E = false) := HNN.out fun e => hl (by rw [e])
    have hl2 : ((a.length : Int) != (b.length : Int)) = true := by rw [bne_iff_ne]; omega
    have hl3 : (a.length != b.length) = true := by rw [bne_iff_ne]; omega
    clear hl
    go_enter Try.func13, Try.ntmps13
    go_wp2_with fail
    go_ret
    exact ⟨by rw [HE.out]; rfl, Below.refl _ _⟩
  have hl2 : ((a.length : Int) != (b.length : Int)) = false := by rw [bne_eq_false_iff_eq]; omega
  have hl3 : (a.length != b.length) = false := by rw [bne_eq_false_iff_eq]; omega
  have HL := Lib.hid hl
  clear hl
  go_enter Try.func13, Try.ntmps13
  go_wp2_with fail
  clear hl2 hl3
  go_loopw [17] (fun i wr => ∃ k : Nat, k ≤ a.length ∧ i = .int .i64 k ∧ Below w.heap.size w wr ∧ Hid (∀ j x y, j < k → a[j]? = some x → b[j]? = some y → x = y)) (fun i _ => a.length - (intOf i).toNat)
  case atStart => exact ⟨0, Nat.zero_le _, rfl, Below.refl _ _, fun j x y hj => absurd hj (Nat.not_lt_zero _)⟩
  case round =>
    obtain ⟨k, hk, rfl, hbr, HA⟩ := hrel
    by_cases hlt : k < a.length
    · obtain ⟨x, hx⟩ : ∃ d, a[k]? = some d := ⟨_, List.getElem?_eq_getElem hlt⟩
      obtain ⟨y, hy⟩ : ∃ d, b[k]? = some d := ⟨_, List.getElem?_eq_getElem (by have := HL.out; omega)⟩
      have hlt' : (k : Int) < (a.length : Int) := by omega
      have hlt2 : (k : Int) < (b.length : Int) := by have := HL.out; omega
      obtain ⟨p1, q1, rfl, u1, _, _, hu1, x2, x3, x4⟩ := nod_at (H1.out.below hbr) hx
      obtain ⟨p2, q2, rfl, u2, _, _, hu2, y2, y3, y4⟩ := nod_at (H2.out.below hbr) hy
      have HNO : Hid (decide (x = y) = false → E = false) := fun h => HNN.out (pair_no hx hy (of_decide_eq_false h))
      have HYES : Hid (decide (x = y) = true → ∀ j x y, j < k + 1 → a[j]? = some x → b[j]? = some y → x = y) := fun h => pair_step HA.out hx hy (of_decide_eq_true h)
      obtain ⟨B1, d1, rfl, _, _⟩ := hu1.form
      obtain ⟨B2, d2, rfl, _, _⟩ := hu2.form
      have ha1 : Below wr.heap.size wr (wr.alloc (.cells #[.int .i64 x.id, .string x.kind, .slice B1 x.props.length d1] 30)) := (Below.refl _ _).alloc (Nat.le_refl _) _
      obtain ⟨z0, z1, z2⟩ := cell_box3 wr (.int .i64 x.id) (.string x.kind) (.slice B1 x.props.length d1) 30
      have hb1 := hbr.trans (ha1.mono hbr.size)
      have HU1 := Lib.hid (hu1.below ha1)
      have HU2 := Lib.hid (hu2.below ha1)
      clear hx hy hu1 hu2 HA
      go_upto_region 6 with fail
      have y2 := cell_below ha1 y2
      have y3 := cell_below ha1 y3
      have y4 := cell_below ha1 y4
      generalize wr.alloc (.cells #[.int .i64 x.id, .string x.kind, .slice B1 x.props.length d1] 30) = w1 at *
      have ha2 : Below w1.heap.size w1 (w1.alloc (.cells #[.int .i64 y.id, .string y.kind, .slice B2 y.props.length d2] 30)) := (Below.refl _ _).alloc (Nat.le_refl _) _
      obtain ⟨t0, t1, t2⟩ := cell_box3 w1 (.int .i64 y.id) (.string y.kind) (.slice B2 y.props.length d2) 30
      have hc := gequal_any x y _ _ _ (HU1.out.below ha2) (HU2.out.below ha2)
      have hb2 := hb1.trans (ha2.mono hb1.size)
      go_upto_region 7 with fail
      have z0 := cell_below ha2 z0
      have z1 := cell_below ha2 z1
      have z2 := cell_below ha2 z2
      generalize w1.alloc (.cells #[.int .i64 y.id, .string y.kind, .slice B2 y.props.length d2] 30) = w2 at *
      generalize decide (x = y) = qq at *
      clear x2 x3 x4 y2 y3 y4 ha1 ha2 hb1
      go_wp2_with fail
      refine hc.mono ?_
      clear hc z0 z1 z2 t0 t1 t2
      rintro e w3 ⟨rfl, hb3⟩
      have hb4 := hb2.trans (hb3.mono hb2.size)
      cases qq with
      | false =>
        have HE : Hid (E = false) := HNO.out rfl
        clear HNO HYES
        go_wp2_with fail
        go_ret
        exact ⟨by rw [HE.out]; rfl, hb4⟩
      | true =>
        have HS := Lib.hid (HYES.out rfl)
        clear HNO HYES
        go_wp2_with fail
        go_roundw
        case rel => exact ⟨k + 1, by omega, by go_num, hb4, HS⟩
        case measure => simp [intOf]; omega
    · obtain rfl : k = a.length := by omega
      have HE : Hid (E = true) := HEQ.out (lists_eq HL.out HA.out)
      clear HA
      go_wp2_with fail
      go_ret
      exact ⟨by rw [HE.out]; rfl, hbr⟩
/-! ### graph.Same -/
def sameGE (a b : Grf) : Int := if grfE a = 0 then grfE b else grfE a
def sameGR (a b : Grf) : Bool := if sameGE a b = 0 then decide (a = b) else false
theorem grf_eqB (a b : Grf) : decide (a = b) = (decide (a.nodes = b.nodes) && decide (a.ties = b.ties)) := by
  cases a; cases b
  simp only [Grf.mk.injEq]
  rename_i p q p' q'
  by_cases h1 : p = p' <;> by_cases h2 : q = q' <;> simp [h1, h2]
set_option maxRecDepth 100000 in
set_option maxHeartbeats 8000000 in
theorem gsame_any (a b : Grf) (k1 b1 k2 b2 : Value) (w : World) (h1 : GrfR w k1 b1 a) (h2 : GrfR w k2 b2 b) :
    Calls Try.prog 6 #[.agg #[k1, b1], .agg #[k2, b2]] w fun e w' => e = .returned (.tuple #[.bool (sameGR a b), errV (sameGE a b)]) ∧ Below w.heap.size w w' := by
  obtain ⟨A1, c1, rfl, _, hm1⟩ := h1.1.form
  obtain ⟨A2, c2, rfl, _, hm2⟩ := h1.2.form
  obtain ⟨A3, c3, rfl, _, hm3⟩ := h2.1.form
  obtain ⟨A4, c4, rfl, _, hm4⟩ := h2.2.form
  unfold maxLen at hm1 hm2 hm3 hm4
  obtain ⟨W0, hW0⟩ : ∃ W0, W0 = (w.alloc (.cells #[.slice A1 a.nodes.length c1, .slice A2 a.ties.length c2] 25)).alloc (.cells #[.slice A3 b.nodes.length c3, .slice A4 b.ties.length c4] 25) := ⟨_, rfl⟩
  have hb0 : Below w.heap.size w W0 := by rw [hW0]; exact ((Below.refl _ _).alloc (Nat.le_refl _) _).alloc (by simp) _
  have g0 : W0.heap[w.heap.size]? = some (.cells #[.slice A1 a.nodes.length c1, .slice A2 a.ties.length c2] 25 (0, 0)) := by
    rw [hW0, Below.heap_alloc _ _ _ (by simp)]; exact heap_alloc_new _ _
  have g1 : W0.heap[w.heap.size + 1]? = some (.cells #[.slice A3 b.nodes.length c3, .slice A4 b.ties.length c4] 25 (0, 0)) := by
    have := heap_alloc_new (w.alloc (.cells #[.slice A1 a.nodes.length c1, .slice A2 a.ties.length c2] 25)) (.cells #[.slice A3 b.nodes.length c3, .slice A4 b.ties.length c4] 25); rw [hW0]; simpa using this
  have hW0' := hW0.symm
  have hw0 := hb0.size
  have X0 := Lib.hid (block_cell g0 0)
  have X1 := Lib.hid (block_cell g0 1)
  have Y0 := Lib.hid (block_cell g1 0)
  have Y1 := Lib.hid (block_cell g1 1)
  have H1 := Lib.hid (h1.below hb0)
  have H2 := Lib.hid (h2.below hb0)
  have HS : Hid (sameGE a b = if grfE a = 0 then grfE b else grfE a) := rfl
  have HR : Hid (sameGR a b = if sameGE a b = 0 then decide (a = b) else false) := rfl
  have x0 := X0.out
  have x1 := X1.out
  have y0 := Y0.out
  have y1 := Y1.out
  have hbl : Below W0.heap.size W0 (W0.alloc (.cells #[.slice A1 a.nodes.length c1, .slice A2 a.ties.length c2, .slice A3 b.nodes.length c3, .slice A4 b.ties.length c4] 25)) := (Below.refl _ _).alloc (Nat.le_refl _) _
  have hgl := heap_alloc_new W0 (.cells #[.slice A1 a.nodes.length c1, .slice A2 a.ties.length c2, .slice A3 b.nodes.length c3, .slice A4 b.ties.length c4] 25)
  clear h1 h2 g0 g1 hW0
  go_enter Try.func6, Try.ntmps6
  go_upto_region 1 with fail
  clear hW0'
  go_upto_region 2 with fail
  generalize W0.alloc (.cells #[.slice A1 a.nodes.length c1, .slice A2 a.ties.length c2, .slice A3 b.nodes.length c3, .slice A4 b.ties.length c4] 25) = W1 at *
  have L := Lib.hid hgl
  have hb01 := hb0.trans (hbl.mono hw0)
  have HC1 : Hid (∀ W, Below W0.heap.size W0 W → Calls Try.prog 9 #[.agg #[.slice A1 a.nodes.length c1, .slice A2 a.ties.length c2]] W fun e w' => e = .returned (errV (grfE a)) ∧ Below W.heap.size W w') := fun W h => grfCheck_any a _ _ W (H1.out.below h)
  have HC2 : Hid (∀ W, Below W0.heap.size W0 W → Calls Try.prog 9 #[.agg #[.slice A3 b.nodes.length c3, .slice A4 b.ties.length c4]] W fun e w' => e = .returned (errV (grfE b)) ∧ Below W.heap.size W w') := fun W h => grfCheck_any b _ _ W (H2.out.below h)
  generalize grfE a = ea at *
  generalize grfE b = eb at *
  clear hgl x0 x1 y0 y1
  go_wp2_with fail
  go_loopw [13] (fun i wr => Below W1.heap.size W1 wr ∧ (i = .int .i64 0 ∨ (i = .int .i64 1 ∧ Hid (ea = 0)) ∨ (i = .int .i64 2 ∧ Hid (ea = 0) ∧ Hid (eb = 0)))) (fun i _ => 3 - (intOf i).toNat)
  case atStart => exact ⟨Below.refl _ _, .inl rfl⟩
  case round =>
    obtain ⟨hbr, hi⟩ := hrel
    have hl := (hbr.block _ (Array.getElem?_eq_some_iff.1 L.out).1).trans L.out
    have l0 := block_cell hl 0
    have l1 := block_cell hl 1
    have l2 := block_cell hl 2
    have l3 := block_cell hl 3
    have hB := hb01.trans (hbr.mono hb01.size)
    have hbW := hbl.trans (hbr.mono hbl.size)
    clear hl
    rcases hi with rfl | ⟨rfl, HA⟩ | ⟨rfl, HA, HB⟩
    · obtain ⟨z0, z1⟩ := cell_box2 wr (.slice A1 a.nodes.length c1) (.slice A2 a.ties.length c2) 25
      have ha : Below wr.heap.size wr (wr.alloc (.cells #[.slice A1 a.nodes.length c1, .slice A2 a.ties.length c2] 25)) := (Below.refl _ _).alloc (Nat.le_refl _) _
      have hc := HC1.out _ (hbW.trans (ha.mono hbW.size))
      have hb2 := hbr.trans (ha.mono hbr.size)
      have hB2 := hB.trans (ha.mono hB.size)
      go_upto_region 4 with fail
      generalize wr.alloc (.cells #[.slice A1 a.nodes.length c1, .slice A2 a.ties.length c2] 25) = w2 at *
      clear l0 l1 l2 l3
      go_wp2_with fail
      refine hc.mono ?_
      clear hc z0 z1
      rintro e w3 ⟨rfl, hb3⟩
      have hB3 := hB2.trans (hb3.mono hB2.size)
      have hbn := hb2.trans (hb3.mono hb2.size)
      by_cases he : ea = 0
      case neg =>
        have HE : Hid (errV (sameGE a b) = .iface 58 (.int .i64 ea) ∧ sameGR a b = false) := by
          have h0 : sameGE a b = ea := by rw [HS.out, if_neg he]
          exact ⟨by rw [h0]; exact errV_some he, by rw [HR.out, h0, if_neg he]⟩
        rw [errV_some he]
        clear he HS HR
        go_wp2_with fail
        go_ret2
        exact ⟨by rw [HE.out.1, HE.out.2]; rfl, hB3⟩
      have HE := Lib.hid he
      rw [errV_zero he]
      clear he
      go_wp2_with fail
      go_roundw
      case rel => exact ⟨hbn, .inr (.inl ⟨rfl, HE⟩)⟩
      case measure => simp [intOf]
    · obtain ⟨z0, z1⟩ := cell_box2 wr (.slice A3 b.nodes.length c3) (.slice A4 b.ties.length c4) 25
      have ha : Below wr.heap.size wr (wr.alloc (.cells #[.slice A3 b.nodes.length c3, .slice A4 b.ties.length c4] 25)) := (Below.refl _ _).alloc (Nat.le_refl _) _
      have hc := HC2.out _ (hbW.trans (ha.mono hbW.size))
      have hb2 := hbr.trans (ha.mono hbr.size)
      have hB2 := hB.trans (ha.mono hB.size)
      go_upto_region 4 with fail
      generalize wr.alloc (.cells #[.slice A3 b.nodes.length c3, .slice A4 b.ties.length c4] 25) = w2 at *
      clear l0 l1 l2 l3
      go_wp2_with fail
      refine hc.mono ?_
      clear hc z0 z1
      rintro e w3 ⟨rfl, hb3⟩
      have hB3 := hB2.trans (hb3.mono hB2.size)
      have hbn := hb2.trans (hb3.mono hb2.size)
      by_cases he : eb = 0
      case neg =>
        have HE : Hid (errV (sameGE a b) = .iface 58 (.int .i64 eb) ∧ sameGR a b = false) := by
          have h0 : sameGE a b = eb := by rw [HS.out, if_pos HA.out]
          exact ⟨by rw [h0]; exact errV_some he, by rw [HR.out, h0, if_neg he]⟩
        rw [errV_some he]
        clear he HS HR
        go_wp2_with fail
        go_ret2
        exact ⟨by rw [HE.out.1, HE.out.2]; rfl, hB3⟩
      have HE := Lib.hid he
      rw [errV_zero he]
      clear he
      go_wp2_with fail
      go_roundw
      case rel => exact ⟨hbn, .inr (.inr ⟨rfl, HA, HE⟩)⟩
      case measure => simp [intOf]
    · have HE : Hid (errV (sameGE a b) = .nilIface ∧ sameGR a b = (decide (a.nodes = b.nodes) && decide (a.ties = b.ties))) := by
        have h0 : sameGE a b = 0 := by rw [HS.out, if_pos HA.out, HB.out]
        exact ⟨errV_zero h0, by rw [HR.out, if_pos h0, grf_eqB]⟩
      have x0 := cell_below hbW X0.out
      have x1 := cell_below hbW X1.out
      have y0 := cell_below hbW Y0.out
      have y1 := cell_below hbW Y1.out
      have hn := eqNods_any a.nodes b.nodes _ _ wr (H1.out.below hbW).1 (H2.out.below hbW).1
      have HT : Hid (∀ W, Below wr.heap.size wr W → Calls Try.prog 15 #[.slice A2 a.ties.length c2, .slice A4 b.ties.length c4] W fun e w' => e = .returned (.bool (decide (a.ties = b.ties))) ∧ Below W.heap.size W w') := fun W h => eqTies_any a.ties b.ties _ _ W ((H1.out.below hbW).below h).2 ((H2.out.below hbW).below h).2
      generalize decide (a.nodes = b.nodes) = p at *
      generalize decide (a.ties = b.ties) = q at *
      clear l0 l1 l2 l3 HA HB HS HR HC1 HC2
      go_wp2_with fail
      refine hn.mono ?_
      clear hn
      rintro e w3 ⟨rfl, hb3⟩
      have hB3 := hB.trans (hb3.mono hB.size)
      cases p with
      | false =>
        go_wp2_with fail
        go_ret2
        exact ⟨by rw [HE.out.1, HE.out.2]; rfl, hB3⟩
      | true =>
        have x1 := cell_below hb3 x1
        have y1 := cell_below hb3 y1
        have ht := HT.out w3 hb3
        clear x0 y0 HT
        go_wp2_with fail
        refine ht.mono ?_
        clear ht
        rintro e w4 ⟨rfl, hb4⟩
        go_wp2_with fail
        go_ret2
        exact ⟨by rw [HE.out.1, HE.out.2]; rfl, hB3.trans (hb4.mono hB3.size)⟩
end Go.Proofs.Ytfjnkidblalckaa
