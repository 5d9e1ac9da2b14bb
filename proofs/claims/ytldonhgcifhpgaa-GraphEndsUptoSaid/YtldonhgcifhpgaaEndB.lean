/- Contracts: graph.ends, graph.Out, graph.In. -/
import Derived.Test.YtldonhgcifhpgaaEndA
namespace Go.Proofs.Ytldonhgcifhpgaa
open Go Go.RowKit

def endsR (g : Grf) (id : Int) (bond : ByteArray) (back : Bool) : List Int := if nodeE g id = 0 then endsS g id bond back else []
/-- Ends, and an error. -/
def RetE (l : List Int) (err : Int) (w : World) (e : Ending) (w' : World) : Prop := ∃ u, e = .returned (.tuple #[u, errV err]) ∧ Sl intL w' u l ∧ Below w.heap.size w w'
theorem nodeE_grf {g : Grf} {id : Int} (h : nodeE g id = 0) : grfE g = 0 := by
  unfold nodeE at h
  split at h
  · assumption
  · rename_i h1; exact absurd h h1
set_option maxRecDepth 100000 in
set_option maxHeartbeats 8000000 in
theorem ends2_any (g : Grf) (id : Int) (bond : ByteArray) (back : Bool) (vn vt : Value) (w : World) (hG : GrfR w vn vt g) :
    Calls Try.prog 54 #[.agg #[vn, vt], .int .i64 id, .string bond, .bool back] w (RetE (endsR g id bond back) (nodeE g id) w) := by
  obtain ⟨An, cn, rfl, _, _⟩ := hG.1.form
  obtain ⟨At, ct, rfl, _, _⟩ := hG.2.form
  have hb0 : Below w.heap.size w (w.alloc (.cells #[.slice An g.nodes.length cn, .slice At g.ties.length ct] 70)) := (Below.refl _ _).alloc (Nat.le_refl _) _
  obtain ⟨x0, x1⟩ := cell_box2 w (.slice An g.nodes.length cn) (.slice At g.ties.length ct) 70
  generalize hW0 : w.alloc (.cells #[.slice An g.nodes.length cn, .slice At g.ties.length ct] 70) = W0 at *
  have HG := Lib.hid (hG.below hb0)
  have hw0 := hb0.size
  have hnd := gnode_any g id _ _ W0 (hG.below hb0)
  obtain ⟨z, hz⟩ : ∃ z, z = nodeE g id := ⟨_, rfl⟩
  have HZ := Lib.hid hz
  rw [← hz] at hnd
  have HR : Hid (endsR g id bond back = if z = 0 then endsS g id bond back else []) := by unfold Hid; rw [hz]; rfl
  rw [← hz]
  generalize nodeR g id = nd at *
  clear hG hz
  go_enter Try.func54, Try.ntmps54
  go_wp2_with fail
  clear hW0
  refine hnd.mono ?_
  clear hnd
  rintro e w1 ⟨u, rfl, hu, hb1⟩
  obtain ⟨Au, cu, rfl, _, _⟩ := hu.form
  have y0 := cell_below hb1 x0
  have y1 := cell_below hb1 x1
  have hB1 := hb0.trans (hb1.mono hw0)
  have hs1 := hB1.size
  have hax : Below w1.heap.size w1 (w1.alloc (.cells #[.int .i64 nd.id, .string nd.kind, .slice Au nd.props.length cu] 72)) := (Below.refl _ _).alloc (Nat.le_refl _) _
  have z0 := cell_below hax y0
  have z1 := cell_below hax y1
  have hB2 := hB1.trans (hax.mono hs1)
  by_cases h0 : z = 0
  · rw [errV_zero h0]
    have HR2 : Hid (endsR g id bond back = endsS g id bond back ∧ errV z = .nilIface) := ⟨by rw [HR.out, if_pos h0], errV_zero h0⟩
    have hok := grf_ok (nodeE_grf (HZ.out.symm.trans h0))
    have hes := ends_any g id bond back _ _ _ (HG.out.below (hb1.trans (hax.mono hb1.size))) (by omega)
    clear h0 hok
    go_wp2_with fail
    refine hes.mono ?_
    clear hes
    rintro e w2 ⟨v, rfl, hov, hvi, hb2⟩
    have hB3 := hB2.trans (hb2.mono hB2.size)
    have HV := Lib.hid (hov.ints hvi)
    clear hov hvi
    go_wp2_with fail
    go_ret2
    exact ⟨_, by rw [HR2.out.2]; rfl, by rw [HR2.out.1]; exact HV.out, hB3⟩
  · rw [errV_some h0]
    have HR2 : Hid (endsR g id bond back = [] ∧ errV z = .iface 98 (.int .i64 z)) := ⟨by rw [HR.out, if_neg h0], errV_some h0⟩
    clear h0
    go_wp2_with fail
    go_ret2
    exact ⟨_, by rw [HR2.out.2]; rfl, by rw [HR2.out.1]; exact Sl.nil 0 (Nat.zero_le _) none, hB2⟩
set_option maxRecDepth 100000 in
set_option maxHeartbeats 8000000 in
theorem gout_any (g : Grf) (id : Int) (bond : ByteArray) (vn vt : Value) (w : World) (hG : GrfR w vn vt g) :
    Calls Try.prog 22 #[.agg #[vn, vt], .int .i64 id, .string bond] w (RetE (endsR g id bond false) (nodeE g id) w) := by
  obtain ⟨An, cn, rfl, _, _⟩ := hG.1.form
  obtain ⟨At, ct, rfl, _, _⟩ := hG.2.form
  have hb0 : Below w.heap.size w (w.alloc (.cells #[.slice An g.nodes.length cn, .slice At g.ties.length ct] 70)) := (Below.refl _ _).alloc (Nat.le_refl _) _
  obtain ⟨x0, x1⟩ := cell_box2 w (.slice An g.nodes.length cn) (.slice At g.ties.length ct) 70
  have hes := ends2_any g id bond false _ _ _ (hG.below hb0)
  clear hG
  generalize nodeE g id = z at *
  generalize endsR g id bond false = l at *
  go_enter Try.func22, Try.ntmps22
  go_wp2_with fail
  refine hes.mono ?_
  clear hes
  rintro e w2 ⟨v, rfl, hv, hb2⟩
  obtain ⟨A, c, rfl, _, _⟩ := hv.form
  have HV := Lib.hid hv
  have hB := hb0.trans (hb2.mono hb0.size)
  clear hv hb2
  go_wp2_with fail
  go_ret2
  exact ⟨_, rfl, HV.out, hB⟩
set_option maxRecDepth 100000 in
set_option maxHeartbeats 8000000 in
theorem gin_any (g : Grf) (id : Int) (bond : ByteArray) (vn vt : Value) (w : World) (hG : GrfR w vn vt g) :
    Calls Try.prog 20 #[.agg #[vn, vt], .int .i64 id, .string bond] w (RetE (endsR g id bond true) (nodeE g id) w) := by
  obtain ⟨An, cn, rfl, _, _⟩ := hG.1.form
  obtain ⟨At, ct, rfl, _, _⟩ := hG.2.form
  have hb0 : Below w.heap.size w (w.alloc (.cells #[.slice An g.nodes.length cn, .slice At g.ties.length ct] 70)) := (Below.refl _ _).alloc (Nat.le_refl _) _
  obtain ⟨x0, x1⟩ := cell_box2 w (.slice An g.nodes.length cn) (.slice At g.ties.length ct) 70
  have hes := ends2_any g id bond true _ _ _ (hG.below hb0)
  clear hG
  generalize nodeE g id = z at *
  generalize endsR g id bond true = l at *
  go_enter Try.func20, Try.ntmps20
  go_wp2_with fail
  refine hes.mono ?_
  clear hes
  rintro e w2 ⟨v, rfl, hv, hb2⟩
  obtain ⟨A, c, rfl, _, _⟩ := hv.form
  have HV := Lib.hid hv
  have hB := hb0.trans (hb2.mono hb0.size)
  clear hv hb2
  go_wp2_with fail
  go_ret2
  exact ⟨_, rfl, HV.out, hB⟩
end Go.Proofs.Ytldonhgcifhpgaa
