/- Contract: graph.Node. -/
import Derived.Test.YtldonhgcifhpgaaCloN
namespace Go.Proofs.Ytldonhgcifhpgaa
open Go Go.RowKit

def zeroN : Nod := ⟨0, .empty, []⟩
def nodeE (g : Grf) (id : Int) : Int := if grfE g = 0 then (if fhas g.nodes id then 0 else 5) else grfE g
def nodeR (g : Grf) (id : Int) : Nod := if nodeE g id = 0 then (g.nodes[fpos g.nodes id]?).getD zeroN else zeroN
theorem nod_rec2 {n : Nod} (h : nodE n = 0) : recE n.props = 0 := by
  unfold nodE at h
  split at h
  · omega
  · split at h
    · exact h
    · rename_i h2; exact absurd h h2
/-- A node and an error. -/
def RetN (n : Nod) (err : Int) (w : World) (e : Ending) (w' : World) : Prop := ∃ u, e = .returned (.tuple #[.agg #[.int .i64 n.id, .string n.kind, u], errV err]) ∧ Sl prpL w' u n.props ∧ Below w.heap.size w w'
set_option maxRecDepth 100000 in
set_option maxHeartbeats 8000000 in
theorem gnode_any (g : Grf) (id : Int) (vn vt : Value) (w : World) (hG : GrfR w vn vt g) :
    Calls Try.prog 97 #[.agg #[vn, vt], .int .i64 id] w (RetN (nodeR g id) (nodeE g id) w) := by
  obtain ⟨An, cn, rfl, _, _⟩ := hG.1.form
  obtain ⟨At, ct, rfl, _, _⟩ := hG.2.form
  have hb0 : Below w.heap.size w ((w.alloc (.cells #[.slice An g.nodes.length cn, .slice At g.ties.length ct] 70)).alloc (.cells #[.int .i64 0, .string ⟨#[]⟩, .slice none 0 0] 72)) := ((Below.refl _ _).alloc (Nat.le_refl _) _).alloc (by simp) _
  have g0 : ((w.alloc (.cells #[.slice An g.nodes.length cn, .slice At g.ties.length ct] 70)).alloc (.cells #[.int .i64 0, .string ⟨#[]⟩, .slice none 0 0] 72)).heap[w.heap.size]? = some (.cells #[.slice An g.nodes.length cn, .slice At g.ties.length ct] 70 (0, 0)) := by
    rw [Below.heap_alloc _ _ _ (by simp)]; exact heap_alloc_new _ _
  have g1 : ((w.alloc (.cells #[.slice An g.nodes.length cn, .slice At g.ties.length ct] 70)).alloc (.cells #[.int .i64 0, .string ⟨#[]⟩, .slice none 0 0] 72)).heap[w.heap.size + 1]? = some (.cells #[.int .i64 0, .string ⟨#[]⟩, .slice none 0 0] 72 (0, 0)) := by
    have := heap_alloc_new (w.alloc (.cells #[.slice An g.nodes.length cn, .slice At g.ties.length ct] 70)) (.cells #[.int .i64 0, .string ⟨#[]⟩, .slice none 0 0] 72); simpa using this
  generalize hW0 : ((w.alloc (.cells #[.slice An g.nodes.length cn, .slice At g.ties.length ct] 70)).alloc (.cells #[.int .i64 0, .string ⟨#[]⟩, .slice none 0 0] 72)) = W0 at *
  have HG := Lib.hid (hG.below hb0)
  have hck := grfCheck_any g _ _ W0 (hG.below hb0)
  have x0 := block_cell g0 0
  have x1 := block_cell g0 1
  have HNE : Hid (nodeE g id = if grfE g = 0 then (if fhas g.nodes id then 0 else 5) else grfE g) := rfl
  have HNR : Hid (nodeR g id = if nodeE g id = 0 then (g.nodes[fpos g.nodes id]?).getD zeroN else zeroN) := rfl
  clear hG
  go_enter Try.func97, Try.ntmps97
  go_wp2_with fail
  refine hck.mono ?_
  clear hck
  rintro e w1 ⟨rfl, hb1⟩
  have hB1 := hb0.trans (hb1.mono hb0.size)
  have m0 := (hb1.block _ (Array.getElem?_eq_some_iff.1 g0).1).trans g0
  have m1 := (hb1.block _ (Array.getElem?_eq_some_iff.1 g1).1).trans g1
  clear g0 g1 x0 x1
  by_cases he : grfE g = 0
  case neg =>
    have HF : Hid (errV (nodeE g id) = .iface 98 (.int .i64 (grfE g)) ∧ nodeR g id = zeroN) := by
      have h0 : nodeE g id = grfE g := by rw [HNE.out, if_neg he]
      exact ⟨by rw [h0]; exact errV_some he, by rw [HNR.out, h0, if_neg he]⟩
    have hB := hB1
    rw [errV_some he]
    clear he HNE HNR hB1 m0
    have e0 := block_free m1 0
    have e1 := block_free m1 1
    have e2 := block_free m1 2
    have e3 := block_cell m1 0
    have e4 := block_cell m1 1
    have e5 := block_cell m1 2
    have k3 := setCell_block (setCell_block (setCell_block m1 0 (.int .i64 0)) 1 (.string ⟨#[]⟩)) 2 (.slice none 0 0)
    have HM := Lib.hid k3
    clear m1 k3
    go_wp2_with fail
    have k2 := block_cell HM.out 0
    have k3 := block_cell HM.out 1
    have k4 := block_cell HM.out 2
    exact bodyPost_ret (v := .tuple #[.agg #[.int .i64 0, .string ⟨#[]⟩, .slice none 0 0], .iface 98 (.int .i64 (grfE g))]) (by simp [results, Try.results97, go_sem, k2, k3, k4]) rfl
      ⟨.slice none 0 0, by rw [HF.out.1, HF.out.2]; rfl, by rw [HF.out.2]; exact Sl.nil 0 (Nat.zero_le _) none, ((hB.setCell (p := ⟨w.heap.size + 1, 0, none⟩) (by show w.heap.size ≤ w.heap.size + 1; omega) _).setCell (p := ⟨w.heap.size + 1, 1, none⟩) (by show w.heap.size ≤ w.heap.size + 1; omega) _).setCell (p := ⟨w.heap.size + 1, 2, none⟩) (by show w.heap.size ≤ w.heap.size + 1; omega) _⟩
  obtain ⟨h60, _, hch, hnods⟩ := grf_ok he
  have HN := Lib.hid hnods
  have HNE2 : Hid (nodeE g id = if fhas g.nodes id then 0 else 5) := by unfold Hid; rw [HNE.out, if_pos he]
  rw [errV_zero he]
  have hf := find_any g _ _ w1 (HG.out.below hb1) id hch (by omega)
  have x0 := block_cell m0 0
  have x1 := block_cell m0 1
  have HFS : Hid (fhas g.nodes id = true → ∃ n, g.nodes[fpos g.nodes id]? = some n) := fhas_some'
  generalize fhas g.nodes id = q at *
  generalize fpos g.nodes id = K at *
  clear he HNE hch hnods
  go_wp2_with fail
  refine hf.mono ?_
  clear hf
  rintro e w2 ⟨rfl, hb2⟩
  have hB2 := hB1.trans (hb2.mono hB1.size)
  have hG2 := (HG.out.below hb1).below hb2
  have m0' := (hb2.block _ (Array.getElem?_eq_some_iff.1 m0).1).trans m0
  have m1' := (hb2.block _ (Array.getElem?_eq_some_iff.1 m1).1).trans m1
  clear m0 m1 x0 x1
  cases q with
  | false =>
    have HF : Hid (errV (nodeE g id) = .iface 98 (.int .i64 5) ∧ nodeR g id = zeroN) := by
      have h0 : nodeE g id = 5 := by rw [HNE2.out]; rfl
      exact ⟨by rw [h0]; rfl, by rw [HNR.out, h0, if_neg (by omega)]⟩
    have hB := hB2
    have m1 := m1'
    clear HNE2 HNR hB1 hB2 m0' m1' hG2
    have e0 := block_free m1 0
    have e1 := block_free m1 1
    have e2 := block_free m1 2
    have e3 := block_cell m1 0
    have e4 := block_cell m1 1
    have e5 := block_cell m1 2
    have k3 := setCell_block (setCell_block (setCell_block m1 0 (.int .i64 0)) 1 (.string ⟨#[]⟩)) 2 (.slice none 0 0)
    have HM := Lib.hid k3
    clear m1 k3
    go_wp2_with fail
    have k2 := block_cell HM.out 0
    have k3 := block_cell HM.out 1
    have k4 := block_cell HM.out 2
    exact bodyPost_ret (v := .tuple #[.agg #[.int .i64 0, .string ⟨#[]⟩, .slice none 0 0], .iface 98 (.int .i64 (5))]) (by simp [results, Try.results97, go_sem, k2, k3, k4]) rfl
      ⟨.slice none 0 0, by rw [HF.out.1, HF.out.2]; rfl, by rw [HF.out.2]; exact Sl.nil 0 (Nat.zero_le _) none, ((hB.setCell (p := ⟨w.heap.size + 1, 0, none⟩) (by show w.heap.size ≤ w.heap.size + 1; omega) _).setCell (p := ⟨w.heap.size + 1, 1, none⟩) (by show w.heap.size ≤ w.heap.size + 1; omega) _).setCell (p := ⟨w.heap.size + 1, 2, none⟩) (by show w.heap.size ≤ w.heap.size + 1; omega) _⟩
  | true =>
    obtain ⟨d, hd⟩ := HFS.out rfl
    have HF : Hid (errV (nodeE g id) = .nilIface ∧ nodeR g id = d) := by
      have h0 : nodeE g id = 0 := by rw [HNE2.out]; rfl
      exact ⟨by rw [h0]; rfl, by rw [HNR.out, h0, if_pos rfl, hd]; rfl⟩
    obtain ⟨bn, on, rfl, u5, hid, hkd, hpr, n0, n1, n2⟩ := nod_at hG2.1 hd
    have hpl8 : d.props.length ≤ 8 := (rec_ok (nod_rec2 (HN.out d (List.mem_of_getElem? hd)).2)).1
    obtain ⟨A5, c5, rfl, _, _⟩ := hpr.form
    have hKl : (K : Int) < (g.nodes.length : Int) := by have := (List.getElem?_eq_some_iff.1 hd).1; omega
    have hcall := ownNode_any d _ w2 hpr (by omega)
    have x0 := block_cell m0' 0
    have x1 := block_cell m0' 1
    clear HNE2 HNR hd hpr hG2 m0' HFS
    go_wp2_with fail
    refine hcall.mono ?_
    clear hcall
    rintro e w3 ⟨u, rfl, hu, hb3⟩
    have hB := hB2.trans (hb3.mono hB2.size)
    have m1 := (hb3.block _ (Array.getElem?_eq_some_iff.1 m1').1).trans m1'
    have hs2 := hB2.size
    have e0 := block_free m1 0
    have e1 := block_free m1 1
    have e2 := block_free m1 2
    have e3 := block_cell m1 0
    have e4 := block_cell m1 1
    have e5 := block_cell m1 2
    obtain ⟨A6, c6, rfl, _, _⟩ := hu.1.form
    have p1 := setCell_block m1 0 (.int .i64 d.id)
    have p2 := setCell_block p1 1 (.string d.kind)
    have p3 := setCell_block p2 2 (.slice A6 d.props.length c6)
    have HM := Lib.hid p3
    have HS : Hid (∀ T, 72 ≠ T → Same T w3 (((w3.setCell ⟨w.heap.size + 1, 0, none⟩ (.int .i64 d.id)).setCell ⟨w.heap.size + 1, 1, none⟩ (.string d.kind)).setCell ⟨w.heap.size + 1, 2, none⟩ (.slice A6 d.props.length c6))) := fun T hT =>
      (Same.setCell (p := ⟨w.heap.size + 1, 0, none⟩) m1 hT _).trans ((Same.setCell (p := ⟨w.heap.size + 1, 1, none⟩) p1 hT _).trans (Same.setCell (p := ⟨w.heap.size + 1, 2, none⟩) p2 hT _))
    have HU := Lib.hid hu
    clear m1 p1 p2 p3 hu m1' n0 n1 n2 x0 x1
    go_wp2_with fail
    have k2 := block_cell HM.out 0
    have k3 := block_cell HM.out 1
    have k4 := block_cell HM.out 2
    exact bodyPost_ret (v := .tuple #[.agg #[.int .i64 d.id, .string d.kind, .slice A6 d.props.length c6], .nilIface]) (by simp [results, Try.results97, go_sem, k2, k3, k4]) rfl
      ⟨.slice A6 d.props.length c6, by rw [HF.out.1, HF.out.2], by rw [HF.out.2]; exact Own.prps (HU.out.1.same (HS.out _ (by decide))) HU.out.2, ((hB.setCell (p := ⟨w.heap.size + 1, 0, none⟩) (by show w.heap.size ≤ w.heap.size + 1; omega) _).setCell (p := ⟨w.heap.size + 1, 1, none⟩) (by show w.heap.size ≤ w.heap.size + 1; omega) _).setCell (p := ⟨w.heap.size + 1, 2, none⟩) (by show w.heap.size ≤ w.heap.size + 1; omega) _⟩
end Go.Proofs.Ytldonhgcifhpgaa
