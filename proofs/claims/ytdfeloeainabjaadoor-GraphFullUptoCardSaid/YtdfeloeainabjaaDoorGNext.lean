/- Contract: graph.Next. -/
import Derived.Test.YtdfeloeainabjaaDoorGrC
import Derived.Test.YtdfeloeainabjaaDoorTold
namespace Go.Proofs.YtdfeloeainabjaaDoor
open Go Go.RowKit

def nextI (l : List Nod) : Int := match l[l.length - 1]? with | some d => d.id + 1 | none => 1
def nextE (g : Grf) : Int := if grfE g = 0 then (if idB (nextI g.nodes) then 0 else 4) else grfE g
def nextN (g : Grf) : Int := if nextE g = 0 then nextI g.nodes else 0
set_option maxHeartbeats 1000000 in
theorem next_any (g : Grf) (vn vt : Value) (w : World) (hg : GrfR w vn vt g) :
    Calls Tryd.prog 11 #[.agg #[vn, vt]] w fun e w' => e = .returned (.tuple #[.int .i64 (nextN g), errV (nextE g)]) ∧ Below w.heap.size w w' := by
  obtain ⟨A, c, rfl, _, hc⟩ := hg.1.form
  obtain ⟨A', c', rfl, _, _⟩ := hg.2.form
  unfold maxLen at hc
  obtain ⟨z0, z1⟩ := cell_box2 w (.slice A g.nodes.length c) (.slice A' g.ties.length c') 25
  have hb0 : Below w.heap.size w (w.alloc (.cells #[.slice A g.nodes.length c, .slice A' g.ties.length c'] 25)) := (Below.refl _ _).alloc (Nat.le_refl _) _
  have h1 := grfCheck_any g _ _ _ (hg.below hb0)
  have HG := Lib.hid hg
  clear hg
  go_enter Tryd.func11, Tryd.ntmps11
  go_wp2_with fail
  refine h1.mono ?_
  clear h1
  rintro e w1 ⟨rfl, hb1⟩
  have hB1 := hb0.trans (hb1.mono hb0.size)
  have y0 := cell_below hb1 z0
  have y1 := cell_below hb1 z1
  clear z0 z1 hb1 hb0
  by_cases he : grfE g = 0
  case neg =>
    have HE : Hid (nextE g = grfE g ∧ nextN g = 0) := by
      have : nextE g = grfE g := by unfold nextE; rw [if_neg he]
      exact ⟨this, by unfold nextN; rw [this, if_neg he]⟩
    have HV : Hid (errV (grfE g) = .iface 80 (.int .i64 (grfE g))) := errV_some he
    rw [errV_some he]
    clear he
    go_wp2_with fail
    go_ret2
    exact ⟨by rw [HE.out.1, HE.out.2, HV.out]; rfl, hB1⟩
  have HE : Hid (nextE g = if idB (nextI g.nodes) then 0 else 4) := by unfold Hid nextE; rw [if_pos he]
  rw [errV_zero he]
  obtain ⟨hlen, _, _, hids⟩ := grf_ok he
  clear he
  by_cases h0 : 0 < g.nodes.length
  · obtain ⟨d, hd⟩ : ∃ d, g.nodes[g.nodes.length - 1]? = some d := ⟨_, List.getElem?_eq_getElem (by omega)⟩
    obtain ⟨b, o, rfl, u, hid, _, _, c0, _, _⟩ := nod_at (HG.out.1.below hB1) hd
    have HN : Hid (nextI g.nodes = d.id + 1) := by unfold Hid nextI; rw [hd]
    have hd1 := (hids d (List.mem_of_getElem? hd)).1
    have hd2 : 1 ≤ d.id ∧ d.id ≤ 1000 := by unfold idB at hd1; simpa using hd1
    obtain ⟨hd3, hd4⟩ := hd2
    have h0' : (0 : Int) < (g.nodes.length : Int) := by omega
    have hl60 : (g.nodes.length : Int) ≤ 60 := by omega
    have hi1 : ((g.nodes.length : Int) - 1).toNat = g.nodes.length - 1 := by omega
    have hi2 : (0 : Int) ≤ (g.nodes.length : Int) - 1 := by omega
    have hi3 : (g.nodes.length : Int) - 1 < (g.nodes.length : Int) := by omega
    clear hids hd hd1
    go_wp2_with fail
    refine (id_b (d.id + 1) _).mono ?_
    rintro e w2 ⟨rfl, rfl⟩
    cases hq : idB (d.id + 1) with
    | true =>
      have HF : Hid (nextE g = 0 ∧ nextN g = d.id + 1) := by
        have : nextE g = 0 := by rw [HE.out, HN.out, hq]; rfl
        exact ⟨this, by unfold nextN; rw [if_pos this]; exact HN.out⟩
      clear hq
      go_wp2_with fail
      go_ret2
      exact ⟨by rw [HF.out.1, HF.out.2, errV_zero rfl]; rfl, hB1⟩
    | false =>
      have HF : Hid (nextE g = 4 ∧ nextN g = 0) := by
        have : nextE g = 4 := by rw [HE.out, HN.out, hq]; rfl
        exact ⟨this, by unfold nextN; rw [this]; rfl⟩
      clear hq
      go_wp2_with fail
      go_ret2
      exact ⟨by rw [HF.out.1, HF.out.2]; rfl, hB1⟩
  · have hl0 : g.nodes.length = 0 := by omega
    have h0' : (g.nodes.length : Int) ≤ 0 := by omega
    have HF : Hid (nextE g = 0 ∧ nextN g = 1) := by
      have h1 : nextI g.nodes = 1 := by unfold nextI; rw [List.getElem?_eq_none (by omega)]
      have : nextE g = 0 := by rw [HE.out, h1]; rfl
      exact ⟨this, by unfold nextN; rw [if_pos this]; exact h1⟩
    clear hl0 hids
    go_wp2_with fail
    refine (id_b 1 _).mono ?_
    rintro e w2 ⟨rfl, rfl⟩
    have hq : idB 1 = true := by decide
    rw [hq]
    clear hq
    go_wp2_with fail
    go_ret2
    exact ⟨by rw [HF.out.1, HF.out.2, errV_zero rfl]; rfl, hB1⟩
end Go.Proofs.YtdfeloeainabjaaDoor
