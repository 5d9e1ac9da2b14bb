/- Parts: DelDo, DelAll, CkI, SchA, SchB, OwnS, OwnT, ChA, LinP, SamS, IntS. -/
import Derived.Test.YtngbbefpphinjaaGreatDoorMg09
import Derived.Test.YtngbbefpphinjaaGreatDoorMg10
import Derived.Test.YtngbbefpphinjaaGreatDoorMg11
import Derived.Deep.DeepCutAuto
import Derived.Test.YtngbbefpphinjaaGreatDoorMg01
import Derived.Test.YtngbbefpphinjaaGreatDoorMg06
import Derived.Test.YtngbbefpphinjaaGreatDoorMg05
import Derived.Deep.RegionHeld3
import Derived.Deep.RegionLaw
import Derived.Test.YtngbbefpphinjaaGreatDoorMg08
import Derived.Test.YtngbbefpphinjaaGreatDoorMg02
/- Contracts: delta.do, delta.Do. -/
namespace Go.Proofs.YtngbbefpphinjaaGreatDoor
open Go Go.RowKit

/-- An op as an argument. -/
def oprCells (o : Opr) (vr : Value) : Array Value := #[.int .i64 o.what, .int .i64 o.node.id, .string o.node.kind, vr, .string o.prop.name, .int .i64 o.prop.v.ty, .int .i64 o.prop.v.n, .string o.prop.v.s, .string o.tie.bond, .int .i64 o.tie.src, .int .i64 o.tie.dst]
structure OprR (w : World) (vr : Value) (o : Opr) : Prop where
  r : Sl prpL w vr o.node.props
  k : Sm o.node.kind
  i : I64 o.node.id
  p : o.prop.ok
  t : o.tie.ok
theorem OprR.below {w w' : World} {vr : Value} {o : Opr} (h : OprR w vr o) (hb : Below w.heap.size w w') : OprR w' vr o := ⟨h.r.below hb, h.k, h.i, h.p, h.t⟩
theorem do1_any (p : Prp) (r : List Prp) (v : Value) (b : Nat) (w : World) (hv : Sl prpL w v r) (hp : p.ok) (c0 : w.cell? ⟨b, 4, none⟩ = some (.string p.name)) (c1 : w.cell? ⟨b, 5, none⟩ = some (.int .i64 p.v.ty)) (c2 : w.cell? ⟨b, 6, none⟩ = some (.int .i64 p.v.n)) (c3 : w.cell? ⟨b, 7, none⟩ = some (.string p.v.s)) :
    Calls Tryz.prog 103 #[v, .pointer (some ⟨b, 0, none⟩)] w (RetO (setR r p) (setE r p) w) := by
  have h1 := set_own r p v w hv hp
  obtain ⟨z, hz⟩ : ∃ z, z = errV (setE r p) := ⟨_, rfl⟩
  have HZ := Lib.hid hz
  obtain ⟨A, c, rfl, _, _⟩ := hv.form
  clear hv
  go_enter Tryz.func103, Tryz.ntmps103
  go_wp2_with fail
  refine h1.mono ?_
  clear h1
  rintro e w1 ⟨u, he, hu, hb⟩
  rw [← HZ.out] at he
  subst he
  obtain ⟨A2, c2, rfl, _, _⟩ := hu.1.form
  have HU := Lib.hid hu
  clear hz hu
  go_wp2_with fail
  go_ret2
  exact ⟨_, by rw [HZ.out]; rfl, HU.out, hb⟩
theorem do2_any (nm : ByteArray) (r : List Prp) (v : Value) (b : Nat) (w : World) (hv : Sl prpL w v r) (c0 : w.cell? ⟨b, 4, none⟩ = some (.string nm)) :
    Calls Tryz.prog 105 #[v, .pointer (some ⟨b, 0, none⟩)] w (RetO (unsetR r nm) (unsetE r nm) w) := by
  have h1 := unset_own r nm v w hv
  obtain ⟨z, hz⟩ : ∃ z, z = errV (unsetE r nm) := ⟨_, rfl⟩
  have HZ := Lib.hid hz
  obtain ⟨A, c, rfl, _, _⟩ := hv.form
  clear hv
  go_enter Tryz.func105, Tryz.ntmps105
  go_wp2_with fail
  refine h1.mono ?_
  clear h1
  rintro e w1 ⟨u, he, hu, hb⟩
  rw [← HZ.out] at he
  subst he
  obtain ⟨A2, c2, rfl, _, _⟩ := hu.1.form
  have HU := Lib.hid hu
  clear hz hu
  go_wp2_with fail
  go_ret2
  exact ⟨_, by rw [HZ.out]; rfl, HU.out, hb⟩
set_option maxRecDepth 100000 in
set_option maxHeartbeats 16000000 in
theorem do_any (g : Grf) (o : Opr) (vn vt vr : Value) (xs : List Value) (B : Nat) (w : World) (hB : B ≤ w.heap.size) (hG : OwnG w B vn vt g xs) (hO : OprR w vr o) (hcn : chain nodLt g.nodes = true) (hct : chain tieLt g.ties = true) (hn : g.nodes.length ≤ 1000) (ht : g.ties.length ≤ 1000) :
    Calls Tryz.prog 49 #[.agg #[vn, vt], .agg (oprCells o vr)] w (RetOG B vn vt (opG g o) (opE g o) w) := by
  obtain ⟨An, cn, rfl, _, _⟩ := hG.n.form
  obtain ⟨At, ct, rfl, _, _⟩ := hG.t.form
  obtain ⟨Ar, cr, rfl, _, _⟩ := hO.r.form
  obtain ⟨what, node, prop, tie⟩ := o
  have hO' : OprR w (.slice Ar node.props.length cr) ⟨what, node, prop, tie⟩ := hO
  clear hO
  show Calls Tryz.prog 49 #[.agg #[.slice An g.nodes.length cn, .slice At g.ties.length ct], .agg #[.int .i64 what, .int .i64 node.id, .string node.kind, .slice Ar node.props.length cr, .string prop.name, .int .i64 prop.v.ty, .int .i64 prop.v.n, .string prop.v.s, .string tie.bond, .int .i64 tie.src, .int .i64 tie.dst]] w _
  obtain ⟨W0, hW0⟩ : ∃ W0, W0 = (((w.alloc (.cells #[.slice An g.nodes.length cn, .slice At g.ties.length ct] 25)).alloc (.cells #[.int .i64 what, .int .i64 node.id, .string node.kind, .slice Ar node.props.length cr, .string prop.name, .int .i64 prop.v.ty, .int .i64 prop.v.n, .string prop.v.s, .string tie.bond, .int .i64 tie.src, .int .i64 tie.dst] 37)).alloc (.cells #[.slice none 0 0, .slice none 0 0] 25)) := ⟨_, rfl⟩
  have hb0 : Below w.heap.size w W0 := by rw [hW0]; exact (((Below.refl _ _).alloc (Nat.le_refl _) _).alloc (by simp) _).alloc (by simp; omega) _
  have g0 : W0.heap[w.heap.size]? = some (.cells #[.slice An g.nodes.length cn, .slice At g.ties.length ct] 25 (0, 0)) := by
    rw [hW0, Below.heap_alloc _ _ _ (by simp; omega), Below.heap_alloc _ _ _ (by simp)]; exact heap_alloc_new _ _
  have g1 : W0.heap[w.heap.size + 1]? = some (.cells #[.int .i64 what, .int .i64 node.id, .string node.kind, .slice Ar node.props.length cr, .string prop.name, .int .i64 prop.v.ty, .int .i64 prop.v.n, .string prop.v.s, .string tie.bond, .int .i64 tie.src, .int .i64 tie.dst] 37 (0, 0)) := by
    rw [hW0, Below.heap_alloc _ _ _ (by simp)]
    have := heap_alloc_new (w.alloc (.cells #[.slice An g.nodes.length cn, .slice At g.ties.length ct] 25)) (.cells #[.int .i64 what, .int .i64 node.id, .string node.kind, .slice Ar node.props.length cr, .string prop.name, .int .i64 prop.v.ty, .int .i64 prop.v.n, .string prop.v.s, .string tie.bond, .int .i64 tie.src, .int .i64 tie.dst] 37); simpa using this
  have g2 : W0.heap[w.heap.size + 1 + 1]? = some (.cells #[.slice none 0 0, .slice none 0 0] 25 (0, 0)) := by
    have := heap_alloc_new ((w.alloc (.cells #[.slice An g.nodes.length cn, .slice At g.ties.length ct] 25)).alloc (.cells #[.int .i64 what, .int .i64 node.id, .string node.kind, .slice Ar node.props.length cr, .string prop.name, .int .i64 prop.v.ty, .int .i64 prop.v.n, .string prop.v.s, .string tie.bond, .int .i64 tie.src, .int .i64 tie.dst] 37)) (.cells #[.slice none 0 0, .slice none 0 0] 25); rw [hW0]; simpa using this
  have hsz : W0.heap.size = w.heap.size + 3 := by rw [hW0]; simp
  have hW0' := hW0.symm
  have HG := Lib.hid hG
  have HG0 := Lib.hid (hG.below hb0)
  have HO0 := Lib.hid (hO'.below hb0)
  have M2 := Lib.hid g2
  have x0 := block_cell g0 0
  have x1 := block_cell g0 1
  have y0 := block_cell g1 0
  have y1 := block_cell g1 1
  have y2 := block_cell g1 2
  have y3 := block_cell g1 3
  have y4 := block_cell g1 4
  have y5 := block_cell g1 5
  have y6 := block_cell g1 6
  have y7 := block_cell g1 7
  have y8 := block_cell g1 8
  have y9 := block_cell g1 9
  have y10 := block_cell g1 10
  clear hG hO' g0 g1 g2 hW0
  by_cases h1 : what = 1
  · subst h1
    have HE : Hid (opE g ⟨1, node, prop, tie⟩ = bornE g node ∧ opG g ⟨1, node, prop, tie⟩ = bornG g node) := ⟨rfl, rfl⟩
    have hcall := born_any g node _ _ _ xs B W0 (by omega) HG0.out hcn hn HO0.out.r HO0.out.k HO0.out.i
    go_enter Tryz.func49, Tryz.ntmps49
    go_wp2_with fail
    refine hcall.mono ?_
    clear hcall
    obtain ⟨z, hz⟩ : ∃ z, z = errV (bornE g node) := ⟨_, rfl⟩
    have HZ := Lib.hid hz
    clear hz
    rintro e w1 ⟨un, ut, he, hown, ⟨A1, n1, c1, A2, n2, c2, rfl, rfl⟩, hB1, hK1⟩
    rw [← HZ.out] at he
    subst he
    have hs1 := hK1.s
    have n2' := (hK1.k (w.heap.size + 1 + 1) (by omega) (fun e => by have := (HG.out.n.lt _ e.symm).2; omega) (fun e => by have := (HG.out.t.lt _ e.symm).2; omega)).trans M2.out
    have a5 := block_free n2' 0
    have a6 := block_free n2' 1
    have a7 := block_cell n2' 0
    have a8 := block_cell n2' 1
    have p3 := setCell_block n2' 0 (.slice A1 n1 c1)
    have p4 := setCell_block p3 1 (.slice A2 n2 c2)
    have HP4 := Lib.hid p4
    have HS : Hid (∀ T, 25 ≠ T → Same T w1 ((w1.setCell ⟨w.heap.size + 1 + 1, 0, none⟩ (.slice A1 n1 c1)).setCell ⟨w.heap.size + 1 + 1, 1, none⟩ (.slice A2 n2 c2))) := fun T hT =>
      (Same.setCell (p := ⟨w.heap.size + 1 + 1, 0, none⟩) n2' hT _).trans (Same.setCell (p := ⟨w.heap.size + 1 + 1, 1, none⟩) p3 hT _)
    have HOW := Lib.hid hown
    have HK1 := Lib.hid hK1
    clear n2' p3 p4 hown hK1
    go_wp2_with fail
    have k2 := block_cell HP4.out 0
    have k3 := block_cell HP4.out 1
    have hk1 : Keep2 w w1 (.slice An g.nodes.length cn) (.slice At g.ties.length ct) := ⟨by omega, fun k hk h1 h2 => (HK1.out.k k (by omega) h1 h2).trans (hb0.block k hk)⟩
    exact bodyPost_ret (v := .tuple #[.agg #[.slice A1 n1 c1, .slice A2 n2 c2], z]) (by simp [results, Tryz.results49, go_sem, k2, k3]) rfl
      ⟨.slice A1 n1 c1, .slice A2 n2 c2, by rw [HZ.out, HE.out.1], (fun h => by
        obtain ⟨ys, hy⟩ := HOW.out (by rw [← HE.out.1]; exact h)
        rw [HE.out.2]
        exact ⟨ys, hy.same (HS.out _ (by decide)) (HS.out _ (by decide)) (HS.out _ (by decide))⟩), ⟨_, _, _, _, _, _, rfl, rfl⟩,
        (((Below.mono hb0 hB).trans hB1).setCell (p := ⟨w.heap.size + 1 + 1, 0, none⟩) (by show B ≤ w.heap.size + 1 + 1; omega) _).setCell (p := ⟨w.heap.size + 1 + 1, 1, none⟩) (by show B ≤ w.heap.size + 1 + 1; omega) _,
        (hk1.box (p := ⟨w.heap.size + 1 + 1, 0, none⟩) (by show w.heap.size ≤ w.heap.size + 1 + 1; omega) _).box (p := ⟨w.heap.size + 1 + 1, 1, none⟩) (by show w.heap.size ≤ w.heap.size + 1 + 1; omega) _⟩
  by_cases h2 : what = 2
  · subst h2
    have HE : Hid (opE g ⟨2, node, prop, tie⟩ = (if fhas g.nodes node.id then 0 else 5) ∧ opG g ⟨2, node, prop, tie⟩ = goneG g node.id) := ⟨rfl, rfl⟩
    have hcall := gone_any g node.id _ _ xs B W0 (by omega) HG0.out hcn hn ht
    go_enter Tryz.func49, Tryz.ntmps49
    go_wp2_with fail
    refine hcall.mono ?_
    clear hcall
    obtain ⟨z, hz⟩ : ∃ z, z = errV (if fhas g.nodes node.id then 0 else 5) := ⟨_, rfl⟩
    have HZ := Lib.hid hz
    clear hz
    rintro e w1 ⟨un, ut, he, hown, ⟨A1, n1, c1, A2, n2, c2, rfl, rfl⟩, hB1, hK1⟩
    rw [← HZ.out] at he
    subst he
    have hs1 := hK1.s
    have n2' := (hK1.k (w.heap.size + 1 + 1) (by omega) (fun e => by have := (HG.out.n.lt _ e.symm).2; omega) (fun e => by have := (HG.out.t.lt _ e.symm).2; omega)).trans M2.out
    have a5 := block_free n2' 0
    have a6 := block_free n2' 1
    have a7 := block_cell n2' 0
    have a8 := block_cell n2' 1
    have p3 := setCell_block n2' 0 (.slice A1 n1 c1)
    have p4 := setCell_block p3 1 (.slice A2 n2 c2)
    have HP4 := Lib.hid p4
    have HS : Hid (∀ T, 25 ≠ T → Same T w1 ((w1.setCell ⟨w.heap.size + 1 + 1, 0, none⟩ (.slice A1 n1 c1)).setCell ⟨w.heap.size + 1 + 1, 1, none⟩ (.slice A2 n2 c2))) := fun T hT =>
      (Same.setCell (p := ⟨w.heap.size + 1 + 1, 0, none⟩) n2' hT _).trans (Same.setCell (p := ⟨w.heap.size + 1 + 1, 1, none⟩) p3 hT _)
    have HOW := Lib.hid hown
    have HK1 := Lib.hid hK1
    clear n2' p3 p4 hown hK1
    go_wp2_with fail
    have k2 := block_cell HP4.out 0
    have k3 := block_cell HP4.out 1
    have hk1 : Keep2 w w1 (.slice An g.nodes.length cn) (.slice At g.ties.length ct) := ⟨by omega, fun k hk h1 h2 => (HK1.out.k k (by omega) h1 h2).trans (hb0.block k hk)⟩
    exact bodyPost_ret (v := .tuple #[.agg #[.slice A1 n1 c1, .slice A2 n2 c2], z]) (by simp [results, Tryz.results49, go_sem, k2, k3]) rfl
      ⟨.slice A1 n1 c1, .slice A2 n2 c2, by rw [HZ.out, HE.out.1], (fun h => by
        obtain ⟨ys, hy⟩ := HOW.out (by rw [← HE.out.1]; exact h)
        rw [HE.out.2]
        exact ⟨ys, hy.same (HS.out _ (by decide)) (HS.out _ (by decide)) (HS.out _ (by decide))⟩), ⟨_, _, _, _, _, _, rfl, rfl⟩,
        (((Below.mono hb0 hB).trans hB1).setCell (p := ⟨w.heap.size + 1 + 1, 0, none⟩) (by show B ≤ w.heap.size + 1 + 1; omega) _).setCell (p := ⟨w.heap.size + 1 + 1, 1, none⟩) (by show B ≤ w.heap.size + 1 + 1; omega) _,
        (hk1.box (p := ⟨w.heap.size + 1 + 1, 0, none⟩) (by show w.heap.size ≤ w.heap.size + 1 + 1; omega) _).box (p := ⟨w.heap.size + 1 + 1, 1, none⟩) (by show w.heap.size ≤ w.heap.size + 1 + 1; omega) _⟩
  by_cases h3 : what = 3
  · subst h3
    have HE : Hid (opE g ⟨3, node, prop, tie⟩ = chgE g node.id (fun r => setE r prop) ∧ opG g ⟨3, node, prop, tie⟩ = chgG g node.id (fun r => setR r prop)) := ⟨rfl, rfl⟩
    have hcall := chg_any 103 #[.pointer (some ⟨w.heap.size + 1, 0, none⟩)] (by intro args w; kernel_rfl) (fun r => setR r prop) (fun r => setE r prop) g node.id _ _ xs B W0 (by omega) HG0.out hcn hn
      (fun r v w' hb hs => do1_any prop r v (w.heap.size + 1) w' hs HO0.out.p (cell_below hb y4) (cell_below hb y5) (cell_below hb y6) (cell_below hb y7))
    go_enter Tryz.func49, Tryz.ntmps49
    go_wp2_with fail
    refine hcall.mono ?_
    clear hcall
    obtain ⟨z, hz⟩ : ∃ z, z = errV (chgE g node.id (fun r => setE r prop)) := ⟨_, rfl⟩
    have HZ := Lib.hid hz
    clear hz
    rintro e w1 ⟨un, ut, he, hown, ⟨A1, n1, c1, A2, n2, c2, rfl, rfl⟩, hB1, hK1⟩
    rw [← HZ.out] at he
    subst he
    have hs1 := hK1.s
    have n2' := (hK1.k (w.heap.size + 1 + 1) (by omega) (fun e => by have := (HG.out.n.lt _ e.symm).2; omega) (fun e => by have := (HG.out.t.lt _ e.symm).2; omega)).trans M2.out
    have a5 := block_free n2' 0
    have a6 := block_free n2' 1
    have a7 := block_cell n2' 0
    have a8 := block_cell n2' 1
    have p3 := setCell_block n2' 0 (.slice A1 n1 c1)
    have p4 := setCell_block p3 1 (.slice A2 n2 c2)
    have HP4 := Lib.hid p4
    have HS : Hid (∀ T, 25 ≠ T → Same T w1 ((w1.setCell ⟨w.heap.size + 1 + 1, 0, none⟩ (.slice A1 n1 c1)).setCell ⟨w.heap.size + 1 + 1, 1, none⟩ (.slice A2 n2 c2))) := fun T hT =>
      (Same.setCell (p := ⟨w.heap.size + 1 + 1, 0, none⟩) n2' hT _).trans (Same.setCell (p := ⟨w.heap.size + 1 + 1, 1, none⟩) p3 hT _)
    have HOW := Lib.hid hown
    have HK1 := Lib.hid hK1
    clear n2' p3 p4 hown hK1
    go_wp2_with fail
    have k2 := block_cell HP4.out 0
    have k3 := block_cell HP4.out 1
    have hk1 : Keep2 w w1 (.slice An g.nodes.length cn) (.slice At g.ties.length ct) := ⟨by omega, fun k hk h1 h2 => (HK1.out.k k (by omega) h1 h2).trans (hb0.block k hk)⟩
    exact bodyPost_ret (v := .tuple #[.agg #[.slice A1 n1 c1, .slice A2 n2 c2], z]) (by simp [results, Tryz.results49, go_sem, k2, k3]) rfl
      ⟨.slice A1 n1 c1, .slice A2 n2 c2, by rw [HZ.out, HE.out.1], (fun h => by
        obtain ⟨ys, hy⟩ := HOW.out (by rw [← HE.out.1]; exact h)
        rw [HE.out.2]
        exact ⟨ys, hy.same (HS.out _ (by decide)) (HS.out _ (by decide)) (HS.out _ (by decide))⟩), ⟨_, _, _, _, _, _, rfl, rfl⟩,
        (((Below.mono hb0 hB).trans hB1).setCell (p := ⟨w.heap.size + 1 + 1, 0, none⟩) (by show B ≤ w.heap.size + 1 + 1; omega) _).setCell (p := ⟨w.heap.size + 1 + 1, 1, none⟩) (by show B ≤ w.heap.size + 1 + 1; omega) _,
        (hk1.box (p := ⟨w.heap.size + 1 + 1, 0, none⟩) (by show w.heap.size ≤ w.heap.size + 1 + 1; omega) _).box (p := ⟨w.heap.size + 1 + 1, 1, none⟩) (by show w.heap.size ≤ w.heap.size + 1 + 1; omega) _⟩
  by_cases h4 : what = 4
  · subst h4
    have HE : Hid (opE g ⟨4, node, prop, tie⟩ = chgE g node.id (fun r => unsetE r prop.name) ∧ opG g ⟨4, node, prop, tie⟩ = chgG g node.id (fun r => unsetR r prop.name)) := ⟨rfl, rfl⟩
    have hcall := chg_any 105 #[.pointer (some ⟨w.heap.size + 1, 0, none⟩)] (by intro args w; kernel_rfl) (fun r => unsetR r prop.name) (fun r => unsetE r prop.name) g node.id _ _ xs B W0 (by omega) HG0.out hcn hn
      (fun r v w' hb hs => do2_any prop.name r v (w.heap.size + 1) w' hs (cell_below hb y4))
    go_enter Tryz.func49, Tryz.ntmps49
    go_wp2_with fail
    refine hcall.mono ?_
    clear hcall
    obtain ⟨z, hz⟩ : ∃ z, z = errV (chgE g node.id (fun r => unsetE r prop.name)) := ⟨_, rfl⟩
    have HZ := Lib.hid hz
    clear hz
    rintro e w1 ⟨un, ut, he, hown, ⟨A1, n1, c1, A2, n2, c2, rfl, rfl⟩, hB1, hK1⟩
    rw [← HZ.out] at he
    subst he
    have hs1 := hK1.s
    have n2' := (hK1.k (w.heap.size + 1 + 1) (by omega) (fun e => by have := (HG.out.n.lt _ e.symm).2; omega) (fun e => by have := (HG.out.t.lt _ e.symm).2; omega)).trans M2.out
    have a5 := block_free n2' 0
    have a6 := block_free n2' 1
    have a7 := block_cell n2' 0
    have a8 := block_cell n2' 1
    have p3 := setCell_block n2' 0 (.slice A1 n1 c1)
    have p4 := setCell_block p3 1 (.slice A2 n2 c2)
    have HP4 := Lib.hid p4
    have HS : Hid (∀ T, 25 ≠ T → Same T w1 ((w1.setCell ⟨w.heap.size + 1 + 1, 0, none⟩ (.slice A1 n1 c1)).setCell ⟨w.heap.size + 1 + 1, 1, none⟩ (.slice A2 n2 c2))) := fun T hT =>
      (Same.setCell (p := ⟨w.heap.size + 1 + 1, 0, none⟩) n2' hT _).trans (Same.setCell (p := ⟨w.heap.size + 1 + 1, 1, none⟩) p3 hT _)
    have HOW := Lib.hid hown
    have HK1 := Lib.hid hK1
    clear n2' p3 p4 hown hK1
    go_wp2_with fail
    have k2 := block_cell HP4.out 0
    have k3 := block_cell HP4.out 1
    have hk1 : Keep2 w w1 (.slice An g.nodes.length cn) (.slice At g.ties.length ct) := ⟨by omega, fun k hk h1 h2 => (HK1.out.k k (by omega) h1 h2).trans (hb0.block k hk)⟩
    exact bodyPost_ret (v := .tuple #[.agg #[.slice A1 n1 c1, .slice A2 n2 c2], z]) (by simp [results, Tryz.results49, go_sem, k2, k3]) rfl
      ⟨.slice A1 n1 c1, .slice A2 n2 c2, by rw [HZ.out, HE.out.1], (fun h => by
        obtain ⟨ys, hy⟩ := HOW.out (by rw [← HE.out.1]; exact h)
        rw [HE.out.2]
        exact ⟨ys, hy.same (HS.out _ (by decide)) (HS.out _ (by decide)) (HS.out _ (by decide))⟩), ⟨_, _, _, _, _, _, rfl, rfl⟩,
        (((Below.mono hb0 hB).trans hB1).setCell (p := ⟨w.heap.size + 1 + 1, 0, none⟩) (by show B ≤ w.heap.size + 1 + 1; omega) _).setCell (p := ⟨w.heap.size + 1 + 1, 1, none⟩) (by show B ≤ w.heap.size + 1 + 1; omega) _,
        (hk1.box (p := ⟨w.heap.size + 1 + 1, 0, none⟩) (by show w.heap.size ≤ w.heap.size + 1 + 1; omega) _).box (p := ⟨w.heap.size + 1 + 1, 1, none⟩) (by show w.heap.size ≤ w.heap.size + 1 + 1; omega) _⟩
  by_cases h5 : what = 5
  · subst h5
    have HE : Hid (opE g ⟨5, node, prop, tie⟩ = tieErr g tie true ∧ opG g ⟨5, node, prop, tie⟩ = tieG g tie true) := ⟨rfl, rfl⟩
    have hcall := tie_any g tie true _ _ xs B W0 (by omega) HG0.out hct ht HO0.out.t
    go_enter Tryz.func49, Tryz.ntmps49
    go_wp2_with fail
    refine hcall.mono ?_
    clear hcall
    obtain ⟨z, hz⟩ : ∃ z, z = errV (tieErr g tie true) := ⟨_, rfl⟩
    have HZ := Lib.hid hz
    clear hz
    rintro e w1 ⟨un, ut, he, hown, ⟨A1, n1, c1, A2, n2, c2, rfl, rfl⟩, hB1, hK1⟩
    rw [← HZ.out] at he
    subst he
    have hs1 := hK1.s
    have n2' := (hK1.k (w.heap.size + 1 + 1) (by omega) (fun e => by have := (HG.out.n.lt _ e.symm).2; omega) (fun e => by have := (HG.out.t.lt _ e.symm).2; omega)).trans M2.out
    have a5 := block_free n2' 0
    have a6 := block_free n2' 1
    have a7 := block_cell n2' 0
    have a8 := block_cell n2' 1
    have p3 := setCell_block n2' 0 (.slice A1 n1 c1)
    have p4 := setCell_block p3 1 (.slice A2 n2 c2)
    have HP4 := Lib.hid p4
    have HS : Hid (∀ T, 25 ≠ T → Same T w1 ((w1.setCell ⟨w.heap.size + 1 + 1, 0, none⟩ (.slice A1 n1 c1)).setCell ⟨w.heap.size + 1 + 1, 1, none⟩ (.slice A2 n2 c2))) := fun T hT =>
      (Same.setCell (p := ⟨w.heap.size + 1 + 1, 0, none⟩) n2' hT _).trans (Same.setCell (p := ⟨w.heap.size + 1 + 1, 1, none⟩) p3 hT _)
    have HOW := Lib.hid hown
    have HK1 := Lib.hid hK1
    clear n2' p3 p4 hown hK1
    go_wp2_with fail
    have k2 := block_cell HP4.out 0
    have k3 := block_cell HP4.out 1
    have hk1 : Keep2 w w1 (.slice An g.nodes.length cn) (.slice At g.ties.length ct) := ⟨by omega, fun k hk h1 h2 => (HK1.out.k k (by omega) h1 h2).trans (hb0.block k hk)⟩
    exact bodyPost_ret (v := .tuple #[.agg #[.slice A1 n1 c1, .slice A2 n2 c2], z]) (by simp [results, Tryz.results49, go_sem, k2, k3]) rfl
      ⟨.slice A1 n1 c1, .slice A2 n2 c2, by rw [HZ.out, HE.out.1], (fun h => by
        obtain ⟨ys, hy⟩ := HOW.out (by rw [← HE.out.1]; exact h)
        rw [HE.out.2]
        exact ⟨ys, hy.same (HS.out _ (by decide)) (HS.out _ (by decide)) (HS.out _ (by decide))⟩), ⟨_, _, _, _, _, _, rfl, rfl⟩,
        (((Below.mono hb0 hB).trans hB1).setCell (p := ⟨w.heap.size + 1 + 1, 0, none⟩) (by show B ≤ w.heap.size + 1 + 1; omega) _).setCell (p := ⟨w.heap.size + 1 + 1, 1, none⟩) (by show B ≤ w.heap.size + 1 + 1; omega) _,
        (hk1.box (p := ⟨w.heap.size + 1 + 1, 0, none⟩) (by show w.heap.size ≤ w.heap.size + 1 + 1; omega) _).box (p := ⟨w.heap.size + 1 + 1, 1, none⟩) (by show w.heap.size ≤ w.heap.size + 1 + 1; omega) _⟩
  by_cases h6 : what = 6
  · subst h6
    have HE : Hid (opE g ⟨6, node, prop, tie⟩ = tieErr g tie false ∧ opG g ⟨6, node, prop, tie⟩ = tieG g tie false) := ⟨rfl, rfl⟩
    have hcall := tie_any g tie false _ _ xs B W0 (by omega) HG0.out hct ht HO0.out.t
    go_enter Tryz.func49, Tryz.ntmps49
    go_wp2_with fail
    refine hcall.mono ?_
    clear hcall
    obtain ⟨z, hz⟩ : ∃ z, z = errV (tieErr g tie false) := ⟨_, rfl⟩
    have HZ := Lib.hid hz
    clear hz
    rintro e w1 ⟨un, ut, he, hown, ⟨A1, n1, c1, A2, n2, c2, rfl, rfl⟩, hB1, hK1⟩
    rw [← HZ.out] at he
    subst he
    have hs1 := hK1.s
    have n2' := (hK1.k (w.heap.size + 1 + 1) (by omega) (fun e => by have := (HG.out.n.lt _ e.symm).2; omega) (fun e => by have := (HG.out.t.lt _ e.symm).2; omega)).trans M2.out
    have a5 := block_free n2' 0
    have a6 := block_free n2' 1
    have a7 := block_cell n2' 0
    have a8 := block_cell n2' 1
    have p3 := setCell_block n2' 0 (.slice A1 n1 c1)
    have p4 := setCell_block p3 1 (.slice A2 n2 c2)
    have HP4 := Lib.hid p4
    have HS : Hid (∀ T, 25 ≠ T → Same T w1 ((w1.setCell ⟨w.heap.size + 1 + 1, 0, none⟩ (.slice A1 n1 c1)).setCell ⟨w.heap.size + 1 + 1, 1, none⟩ (.slice A2 n2 c2))) := fun T hT =>
      (Same.setCell (p := ⟨w.heap.size + 1 + 1, 0, none⟩) n2' hT _).trans (Same.setCell (p := ⟨w.heap.size + 1 + 1, 1, none⟩) p3 hT _)
    have HOW := Lib.hid hown
    have HK1 := Lib.hid hK1
    clear n2' p3 p4 hown hK1
    go_wp2_with fail
    have k2 := block_cell HP4.out 0
    have k3 := block_cell HP4.out 1
    have hk1 : Keep2 w w1 (.slice An g.nodes.length cn) (.slice At g.ties.length ct) := ⟨by omega, fun k hk h1 h2 => (HK1.out.k k (by omega) h1 h2).trans (hb0.block k hk)⟩
    exact bodyPost_ret (v := .tuple #[.agg #[.slice A1 n1 c1, .slice A2 n2 c2], z]) (by simp [results, Tryz.results49, go_sem, k2, k3]) rfl
      ⟨.slice A1 n1 c1, .slice A2 n2 c2, by rw [HZ.out, HE.out.1], (fun h => by
        obtain ⟨ys, hy⟩ := HOW.out (by rw [← HE.out.1]; exact h)
        rw [HE.out.2]
        exact ⟨ys, hy.same (HS.out _ (by decide)) (HS.out _ (by decide)) (HS.out _ (by decide))⟩), ⟨_, _, _, _, _, _, rfl, rfl⟩,
        (((Below.mono hb0 hB).trans hB1).setCell (p := ⟨w.heap.size + 1 + 1, 0, none⟩) (by show B ≤ w.heap.size + 1 + 1; omega) _).setCell (p := ⟨w.heap.size + 1 + 1, 1, none⟩) (by show B ≤ w.heap.size + 1 + 1; omega) _,
        (hk1.box (p := ⟨w.heap.size + 1 + 1, 0, none⟩) (by show w.heap.size ≤ w.heap.size + 1 + 1; omega) _).box (p := ⟨w.heap.size + 1 + 1, 1, none⟩) (by show w.heap.size ≤ w.heap.size + 1 + 1; omega) _⟩
  have HE : Hid (opE g ⟨what, node, prop, tie⟩ = 1) := by
    unfold Hid opE
    simp only [h1, h2, h3, h4, h5, h6, if_false]
  have b1 : (what == 1) = false := beq_eq_false_iff_ne.2 h1
  have b2 : (what == 2) = false := beq_eq_false_iff_ne.2 h2
  have b3 : (what == 3) = false := beq_eq_false_iff_ne.2 h3
  have b4 : (what == 4) = false := beq_eq_false_iff_ne.2 h4
  have b5 : (what == 5) = false := beq_eq_false_iff_ne.2 h5
  have b6 : (what == 6) = false := beq_eq_false_iff_ne.2 h6
  have HB0 := Lib.hid hb0
  have a5 := block_free M2.out 0
  have a6 := block_free M2.out 1
  have a7 := block_cell M2.out 0
  have a8 := block_cell M2.out 1
  have p3 := setCell_block M2.out 0 (.slice An g.nodes.length cn)
  have p4 := setCell_block p3 1 (.slice At g.ties.length ct)
  have HP4 := Lib.hid p4
  clear p3 p4
  go_enter Tryz.func49, Tryz.ntmps49
  go_wp2_with fail
  have k2 := block_cell HP4.out 0
  have k3 := block_cell HP4.out 1
  exact bodyPost_ret (v := .tuple #[.agg #[.slice An g.nodes.length cn, .slice At g.ties.length ct], .iface 122 (.int .i64 1)]) (by simp [results, Tryz.results49, go_sem, k2, k3]) rfl
    ⟨.slice An g.nodes.length cn, .slice At g.ties.length ct, by rw [HE.out]; rfl, (fun h => by rw [HE.out] at h; exact absurd h (by decide)), ⟨_, _, _, _, _, _, rfl, rfl⟩,
      ((HB0.out.mono hB).setCell (p := ⟨w.heap.size + 1 + 1, 0, none⟩) (by show B ≤ w.heap.size + 1 + 1; omega) _).setCell (p := ⟨w.heap.size + 1 + 1, 1, none⟩) (by show B ≤ w.heap.size + 1 + 1; omega) _,
      ((Keep2.below HB0.out).box (p := ⟨w.heap.size + 1 + 1, 0, none⟩) (by show w.heap.size ≤ w.heap.size + 1 + 1; omega) _).box (p := ⟨w.heap.size + 1 + 1, 1, none⟩) (by show w.heap.size ≤ w.heap.size + 1 + 1; omega) _⟩
end Go.Proofs.YtngbbefpphinjaaGreatDoor

/- Contract: delta.Do. -/
namespace Go.Proofs.YtngbbefpphinjaaGreatDoor
open Go Go.RowKit

/-- A graph of the call's own, and an error. -/
def RetGO (g : Grf) (err : Int) (w : World) (e : Ending) (w' : World) : Prop := ∃ vn vt, e = .returned (.tuple #[.agg #[vn, vt], errV err]) ∧ (∃ xs, OwnG w' w.heap.size vn vt g xs) ∧ Below w.heap.size w w'
theorem RetGO.r {g : Grf} {err : Int} {w w' : World} {e : Ending} (h : RetGO g err w e w') : RetG g err w e w' := by
  obtain ⟨vn, vt, h1, ⟨xs, h2⟩, h3⟩ := h
  exact ⟨vn, vt, h1, h2.r, h3⟩
/-- A right graph, where it lies, can be owned and worked on. -/
theorem grf_work {g : Grf} (h : grfE g = 0) : chain nodLt g.nodes = true ∧ chain tieLt g.ties = true ∧ g.nodes.length ≤ 60 ∧ g.ties.length ≤ 120 ∧ ∀ d ∈ g.nodes, d.props.length ≤ 1000 := by
  obtain ⟨h1, h2, h3, h4⟩ := grf_ok h
  exact ⟨h3, (grf_ties h).1, h1, h2, fun d hd => by have := (rec_ok (nod_rec' (h4 d hd).2)).1; omega⟩
theorem cut_facts {w W3 : World} {B b7 b2 : Nat} {A4 A5 : Option Addr} {n4 c4 n5 c5 : Nat} {g : Grf} {P : Prop} (hN7 : W3.heap[b7]? = some (.cells #[.slice none 0 0, .slice none 0 0] 25 (0, 0))) (hN2 : W3.heap[b2]? = some (.cells #[.slice none 0 0, .slice none 0 0] 25 (0, 0)))
    (hlt : b2 < b7) (how : P → ∃ xs, OwnG W3 B (.slice A4 n4 c4) (.slice A5 n5 c5) g xs) (hB : Below w.heap.size w W3) (hb : w.heap.size ≤ b2) :
    ((W3.setCell ⟨b7, 0, none⟩ (.slice A4 n4 c4)).setCell ⟨b7, 1, none⟩ (.slice A5 n5 c5)).heap[b7]? = some (.cells #[.slice A4 n4 c4, .slice A5 n5 c5] 25 (0, 0)) ∧
    ((W3.setCell ⟨b7, 0, none⟩ (.slice A4 n4 c4)).setCell ⟨b7, 1, none⟩ (.slice A5 n5 c5)).heap[b2]? = some (.cells #[.slice none 0 0, .slice none 0 0] 25 (0, 0)) ∧
    (P → ∃ xs, OwnG ((W3.setCell ⟨b7, 0, none⟩ (.slice A4 n4 c4)).setCell ⟨b7, 1, none⟩ (.slice A5 n5 c5)) B (.slice A4 n4 c4) (.slice A5 n5 c5) g xs) ∧
    Below w.heap.size w ((W3.setCell ⟨b7, 0, none⟩ (.slice A4 n4 c4)).setCell ⟨b7, 1, none⟩ (.slice A5 n5 c5)) := by
  have p7 := setCell_block (setCell_block hN7 0 (.slice A4 n4 c4)) 1 (.slice A5 n5 c5)
  refine ⟨p7, ?_, fun h => ?_, (hB.setCell (p := ⟨b7, 0, none⟩) (by show w.heap.size ≤ b7; omega) _).setCell (p := ⟨b7, 1, none⟩) (by show w.heap.size ≤ b7; omega) _⟩
  · rw [Below.heap_setCell _ _ _ _ (by show b2 ≠ b7; omega), Below.heap_setCell _ _ _ _ (by show b2 ≠ b7; omega)]; exact hN2
  · obtain ⟨zs, hz⟩ := how h
    have hS4 : ∀ T, 25 ≠ T → Same T W3 ((W3.setCell ⟨b7, 0, none⟩ (.slice A4 n4 c4)).setCell ⟨b7, 1, none⟩ (.slice A5 n5 c5)) := fun T hT => (Same.setCell (p := ⟨b7, 0, none⟩) hN7 hT _).trans (Same.setCell (p := ⟨b7, 1, none⟩) (setCell_block hN7 0 _) hT _)
    exact ⟨zs, hz.same (hS4 _ (by decide)) (hS4 _ (by decide)) (hS4 _ (by decide))⟩
set_option maxRecDepth 100000 in
set_option maxHeartbeats 16000000 in
theorem Do_own (g : Grf) (o : Opr) (vn vt vr : Value) (w : World) (hG : GrfR w vn vt g) (hO : OprR w vr o) :
    Calls Tryz.prog 9 #[.agg #[vn, vt], .agg (oprCells o vr)] w (RetGO (doG g o) (doE g o) w) := by
  obtain ⟨An, cn, rfl, _, _⟩ := hG.1.form
  obtain ⟨At, ct, rfl, _, _⟩ := hG.2.form
  obtain ⟨Ar, cr, rfl, _, _⟩ := hO.r.form
  have HDE : Hid (doE g o = if grfE g = 0 then opE g o else grfE g) := rfl
  have HDG : Hid (doG g o = if doE g o = 0 then opG g o else ⟨[], []⟩) := rfl
  obtain ⟨what, node, prop, tie⟩ := o
  have hO' : OprR w (.slice Ar node.props.length cr) ⟨what, node, prop, tie⟩ := hO
  clear hO
  show Calls Tryz.prog 9 #[.agg #[.slice An g.nodes.length cn, .slice At g.ties.length ct], .agg #[.int .i64 what, .int .i64 node.id, .string node.kind, .slice Ar node.props.length cr, .string prop.name, .int .i64 prop.v.ty, .int .i64 prop.v.n, .string prop.v.s, .string tie.bond, .int .i64 tie.src, .int .i64 tie.dst]] w _
  obtain ⟨W0, hW0⟩ : ∃ W0, W0 = (((w.alloc (.cells #[.slice An g.nodes.length cn, .slice At g.ties.length ct] 25)).alloc (.cells #[.int .i64 what, .int .i64 node.id, .string node.kind, .slice Ar node.props.length cr, .string prop.name, .int .i64 prop.v.ty, .int .i64 prop.v.n, .string prop.v.s, .string tie.bond, .int .i64 tie.src, .int .i64 tie.dst] 37)).alloc (.cells #[.slice none 0 0, .slice none 0 0] 25)) := ⟨_, rfl⟩
  have hb0 : Below w.heap.size w W0 := by rw [hW0]; exact (((Below.refl _ _).alloc (Nat.le_refl _) _).alloc (by simp) _).alloc (by simp; omega) _
  have g0 : W0.heap[w.heap.size]? = some (.cells #[.slice An g.nodes.length cn, .slice At g.ties.length ct] 25 (0, 0)) := by
    rw [hW0, Below.heap_alloc _ _ _ (by simp; omega), Below.heap_alloc _ _ _ (by simp)]; exact heap_alloc_new _ _
  have g1 : W0.heap[w.heap.size + 1]? = some (.cells #[.int .i64 what, .int .i64 node.id, .string node.kind, .slice Ar node.props.length cr, .string prop.name, .int .i64 prop.v.ty, .int .i64 prop.v.n, .string prop.v.s, .string tie.bond, .int .i64 tie.src, .int .i64 tie.dst] 37 (0, 0)) := by
    rw [hW0, Below.heap_alloc _ _ _ (by simp)]
    have := heap_alloc_new (w.alloc (.cells #[.slice An g.nodes.length cn, .slice At g.ties.length ct] 25)) (.cells #[.int .i64 what, .int .i64 node.id, .string node.kind, .slice Ar node.props.length cr, .string prop.name, .int .i64 prop.v.ty, .int .i64 prop.v.n, .string prop.v.s, .string tie.bond, .int .i64 tie.src, .int .i64 tie.dst] 37); simpa using this
  have g2 : W0.heap[w.heap.size + 1 + 1]? = some (.cells #[.slice none 0 0, .slice none 0 0] 25 (0, 0)) := by
    have := heap_alloc_new ((w.alloc (.cells #[.slice An g.nodes.length cn, .slice At g.ties.length ct] 25)).alloc (.cells #[.int .i64 what, .int .i64 node.id, .string node.kind, .slice Ar node.props.length cr, .string prop.name, .int .i64 prop.v.ty, .int .i64 prop.v.n, .string prop.v.s, .string tie.bond, .int .i64 tie.src, .int .i64 tie.dst] 37)) (.cells #[.slice none 0 0, .slice none 0 0] 25); rw [hW0]; simpa using this
  have hsz : W0.heap.size = w.heap.size + 3 := by rw [hW0]; simp
  have hW0' := hW0.symm
  have HG := Lib.hid (hG.below hb0)
  have HO := Lib.hid (hO'.below hb0)
  have hck := grfCheck_any g _ _ W0 (hG.below hb0)
  have x0 := block_cell g0 0
  have x1 := block_cell g0 1
  clear hG hO' hW0
  go_enter Tryz.func9, Tryz.ntmps9
  go_wp2_with fail
  refine hck.mono ?_
  clear hck
  rintro e w1 ⟨rfl, hb1⟩
  have hB1 := hb0.trans (hb1.mono hb0.size)
  have m0 := (hb1.block _ (Array.getElem?_eq_some_iff.1 g0).1).trans g0
  have m1 := (hb1.block _ (Array.getElem?_eq_some_iff.1 g1).1).trans g1
  have m2 := (hb1.block _ (Array.getElem?_eq_some_iff.1 g2).1).trans g2
  have hs1 := hb1.size
  clear g0 g1 g2 x0 x1
  by_cases he : grfE g = 0
  case neg =>
    have HEE : Hid (errV (doE g ⟨what, node, prop, tie⟩) = .iface 122 (.int .i64 (grfE g)) ∧ doG g ⟨what, node, prop, tie⟩ = ⟨[], []⟩) := by
      have h0 : doE g ⟨what, node, prop, tie⟩ = grfE g := by rw [HDE.out, if_neg he]
      exact ⟨by rw [h0]; exact errV_some he, by rw [HDG.out, h0, if_neg he]⟩
    rw [errV_some he]
    clear he HDE HDG
    have a5 := block_free m2 0
    have a6 := block_free m2 1
    have a7 := block_cell m2 0
    have a8 := block_cell m2 1
    have p4 := setCell_block (setCell_block m2 0 (.slice none 0 0)) 1 (.slice none 0 0)
    have HP4 := Lib.hid p4
    clear p4 m0 m1 m2
    go_wp2_with fail
    have k2 := block_cell HP4.out 0
    have k3 := block_cell HP4.out 1
    exact bodyPost_ret (v := .tuple #[.agg #[.slice none 0 0, .slice none 0 0], .iface 122 (.int .i64 (grfE g))]) (by simp [results, Tryz.results9, go_sem, k2, k3]) rfl
      ⟨.slice none 0 0, .slice none 0 0, by rw [HEE.out.1], by rw [HEE.out.2]; exact ⟨[], OwnG.nil⟩, (hB1.setCell (p := ⟨w.heap.size + 1 + 1, 0, none⟩) (by show w.heap.size ≤ w.heap.size + 1 + 1; omega) _).setCell (p := ⟨w.heap.size + 1 + 1, 1, none⟩) (by show w.heap.size ≤ w.heap.size + 1 + 1; omega) _⟩
  obtain ⟨k1, k2, k3, k4, k5⟩ := grf_work he
  have HDE2 : Hid (doE g ⟨what, node, prop, tie⟩ = opE g ⟨what, node, prop, tie⟩) := by unfold Hid; rw [HDE.out, if_pos he]
  rw [errV_zero he]
  have x0 := block_cell m0 0
  have x1 := block_cell m0 1
  have y0 := block_cell m1 0
  have y1 := block_cell m1 1
  have y2 := block_cell m1 2
  have y3 := block_cell m1 3
  have y4 := block_cell m1 4
  have y5 := block_cell m1 5
  have y6 := block_cell m1 6
  have y7 := block_cell m1 7
  have y8 := block_cell m1 8
  have y9 := block_cell m1 9
  have y10 := block_cell m1 10
  have hZ : Below w1.drew.heap.size w1.drew (w1.alloc (.cells #[.slice none 0 0, .slice none 0 0] 25)).drew := ((Below.refl w1.drew.heap.size w1.drew).alloc (Nat.le_refl _) (.cells #[.slice none 0 0, .slice none 0 0] 25) : Below w1.drew.heap.size w1.drew (w1.drew.alloc (.cells #[.slice none 0 0, .slice none 0 0] 25)))
  have hD : Below w1.heap.size w1 w1.drew := (Below.refl _ _).drew
  have hown := own_any g _ _ w1.drew ((HG.out.below hb1).below hD) (by omega) (by omega) k5
  have hown2 := own_any g _ _ ((w1.alloc (.cells #[.slice none 0 0, .slice none 0 0] 25)).drew) (((HG.out.below hb1).below hD).below hZ) (by omega) (by omega) k5
  have HO1 := Lib.hid (HO.out.below hb1)
  have m3 : (w1.alloc (.cells #[.slice none 0 0, .slice none 0 0] 25)).heap[w.heap.size + 1]? = _ := (hZ.block _ (Array.getElem?_eq_some_iff.1 m1).1).trans m1
  have s0 := block_cell m3 0
  have s1 := block_cell m3 1
  have s2 := block_cell m3 2
  have s3 := block_cell m3 3
  have s4 := block_cell m3 4
  have s5 := block_cell m3 5
  have s6 := block_cell m3 6
  have s7 := block_cell m3 7
  have s8 := block_cell m3 8
  have s9 := block_cell m3 9
  have s10 := block_cell m3 10
  have m4 : (w1.alloc (.cells #[.slice none 0 0, .slice none 0 0] 25)).heap[w.heap.size]? = _ := (hZ.block _ (Array.getElem?_eq_some_iff.1 m0).1).trans m0
  have t0 := block_cell m4 0
  have t1 := block_cell m4 1
  clear m3 m4
  have M1 := Lib.hid m1
  have M2 := Lib.hid m2
  have hzs : (w1.alloc (.cells #[.slice none 0 0, .slice none 0 0] 25)).drew.heap.size = w1.heap.size + 1 := by show (w1.alloc (.cells #[.slice none 0 0, .slice none 0 0] 25)).heap.size = w1.heap.size + 1; simp
  have hds : w1.drew.heap.size = w1.heap.size := rfl
  have HDO : Hid (∀ (un ut : Value) (ys : List Value) (B : Nat) (W : World), B ≤ W.heap.size → OwnG W B un ut g ys → Below w1.heap.size w1 W →
      Calls Tryz.prog 49 #[.agg #[un, ut], .agg #[.int .i64 what, .int .i64 node.id, .string node.kind, .slice Ar node.props.length cr, .string prop.name, .int .i64 prop.v.ty, .int .i64 prop.v.n, .string prop.v.s, .string tie.bond, .int .i64 tie.src, .int .i64 tie.dst]] W (RetOG B un ut (opG g ⟨what, node, prop, tie⟩) (opE g ⟨what, node, prop, tie⟩) W)) :=
    fun un ut ys B W h1 h2 h3 => do_any g ⟨what, node, prop, tie⟩ un ut (.slice Ar node.props.length cr) ys B W h1 h2 (HO1.out.below h3) k1 k2 (by omega) (by omega)
  clear he m0 m1 m2 HDE
  go_upto_region 4 with fail
  go_cut [7, 8] (fun p z wx => ∃ (b7 : Nat) (A4 : Option Addr) (n4 c4 : Nat) (A5 : Option Addr) (n5 c5 : Nat), p = .pointer (some ⟨b7, 0, none⟩) ∧ z = errV (opE g ⟨what, node, prop, tie⟩) ∧ wx.heap[b7]? = some (.cells #[.slice A4 n4 c4, .slice A5 n5 c5] 25 (0, 0)) ∧
    wx.heap[w.heap.size + 1 + 1]? = some (.cells #[.slice none 0 0, .slice none 0 0] 25 (0, 0)) ∧ (opE g ⟨what, node, prop, tie⟩ = 0 → ∃ xs, OwnG wx w1.heap.size (.slice A4 n4 c4) (.slice A5 n5 c5) (opG g ⟨what, node, prop, tie⟩) xs) ∧ Below w.heap.size w wx ∧ w.heap.size + 1 + 1 < b7)
  case first =>
    go_region_law
      (first
        | (refine step_callx rfl 50 #[.agg #[.slice An g.nodes.length cn, .slice At g.ties.length ct]] (by kernel_rfl) hown ?_
           rintro e w2 ⟨un, ut, ys, rfl, ho2, hb2⟩
           refine ⟨_, rfl, ?_⟩
           have hb2' := hD.trans hb2
           have hs2 := hb2.size
           have HO2 := Lib.hid ho2
           obtain ⟨A2, c2, rfl, _, _⟩ := ho2.n.form
           obtain ⟨A3, c3, rfl, _, _⟩ := ho2.t.form
           have hm1 := (hb2'.block _ (Array.getElem?_eq_some_iff.1 M1.out).1).trans M1.out
           have hm1' := hm1
           have q0 := block_cell hm1 0
           have q1 := block_cell hm1 1
           have q2 := block_cell hm1 2
           have q3 := block_cell hm1 3
           have q4 := block_cell hm1 4
           have q5 := block_cell hm1 5
           have q6 := block_cell hm1 6
           have q7 := block_cell hm1 7
           have q8 := block_cell hm1 8
           have q9 := block_cell hm1 9
           have q10 := block_cell hm1 10
           clear hm1
           have hx2 : Below w2.heap.size w2 (w2.alloc (.cells #[.slice none 0 0, .slice none 0 0] 25)) := (Below.refl _ _).alloc (Nat.le_refl _) _
           have hm2 := (hx2.block _ (Array.getElem?_eq_some_iff.1 hm1').1).trans hm1'
           have r0 := block_cell hm2 0
           have r1 := block_cell hm2 1
           have r2 := block_cell hm2 2
           have r3 := block_cell hm2 3
           have r4 := block_cell hm2 4
           have r5 := block_cell hm2 5
           have r6 := block_cell hm2 6
           have r7 := block_cell hm2 7
           have r8 := block_cell hm2 8
           have r9 := block_cell hm2 9
           have r10 := block_cell hm2 10
           clear hm2 hm1'
           have hdo := HDO.out _ _ ys w1.drew.heap.size w2 hs2 ho2 hb2'
           have hdo2 := HDO.out _ _ ys w1.drew.heap.size (w2.alloc (.cells #[.slice none 0 0, .slice none 0 0] 25)) (by simp; omega) (ho2.below hx2) (hb2'.trans (hx2.mono hb2'.size))
           have hordA : True := trivial)
        | (refine step_callx rfl 50 #[.agg #[.slice An g.nodes.length cn, .slice At g.ties.length ct]] (by kernel_rfl) hown2 ?_
           rintro e w2 ⟨un, ut, ys, rfl, ho2, hb2⟩
           refine ⟨_, rfl, ?_⟩
           have hb2' := hD.trans (hZ.trans (hb2.mono (by omega)))
           have hs2 := hb2.size
           have HO2 := Lib.hid ho2
           obtain ⟨A2, c2, rfl, _, _⟩ := ho2.n.form
           obtain ⟨A3, c3, rfl, _, _⟩ := ho2.t.form
           have hm1 := (hb2'.block _ (Array.getElem?_eq_some_iff.1 M1.out).1).trans M1.out
           have hm1' := hm1
           have q0 := block_cell hm1 0
           have q1 := block_cell hm1 1
           have q2 := block_cell hm1 2
           have q3 := block_cell hm1 3
           have q4 := block_cell hm1 4
           have q5 := block_cell hm1 5
           have q6 := block_cell hm1 6
           have q7 := block_cell hm1 7
           have q8 := block_cell hm1 8
           have q9 := block_cell hm1 9
           have q10 := block_cell hm1 10
           clear hm1
           have hdo := HDO.out _ _ ys _ w2 hs2 ho2 hb2'
           have hordC : True := trivial)
        | (have _t := hordA
           refine step_callx rfl 49 #[.agg #[.slice A2 g.nodes.length c2, .slice A3 g.ties.length c3], .agg #[.int .i64 what, .int .i64 node.id, .string node.kind, .slice Ar node.props.length cr, .string prop.name, .int .i64 prop.v.ty, .int .i64 prop.v.n, .string prop.v.s, .string tie.bond, .int .i64 tie.src, .int .i64 tie.dst]] (by kernel_rfl) hdo ?_
           rintro e w3 ⟨un, ut, rfl, how, ⟨A4, n4, c4, A5, n5, c5, rfl, rfl⟩, hB3, hK3⟩
           refine ⟨_, rfl, ?_⟩
           have hks := hK3.s
           have hx3 : Below w3.heap.size w3 (w3.alloc (.cells #[.slice A4 n4 c4, .slice A5 n5 c5] 25)) := (Below.refl _ _).alloc (Nat.le_refl _) _
           have hN7 : (w3.alloc (.cells #[.slice A4 n4 c4, .slice A5 n5 c5] 25)).heap[w3.heap.size]? = some (.cells #[.slice A4 n4 c4, .slice A5 n5 c5] 25 (0, 0)) := heap_alloc_new _ _
           have hN2 : (w3.alloc (.cells #[.slice A4 n4 c4, .slice A5 n5 c5] 25)).heap[w.heap.size + 1 + 1]? = some (.cells #[.slice none 0 0, .slice none 0 0] 25 (0, 0)) := by
             rw [Below.heap_alloc _ _ _ (by omega)]
             exact (hB3.block _ (by omega)).trans ((hb2'.block _ (by omega)).trans M2.out)
           have how' : opE g ⟨what, node, prop, tie⟩ = 0 → ∃ xs, OwnG (w3.alloc (.cells #[.slice A4 n4 c4, .slice A5 n5 c5] 25)) w1.heap.size (.slice A4 n4 c4) (.slice A5 n5 c5) (opG g ⟨what, node, prop, tie⟩) xs := fun h => by
             obtain ⟨zs, hz⟩ := how h
             exact ⟨zs, hz.below hx3⟩
           have hBW : Below w.heap.size w (w3.alloc (.cells #[.slice A4 n4 c4, .slice A5 n5 c5] 25)) := (hB1.trans ((hb2'.trans (hB3.mono (by omega))).mono hB1.size)).alloc (by omega) _
           have hb7s : w.heap.size + 1 + 1 < w3.heap.size := by omega
           have hfin := And.intro hN7 (And.intro hN2 (And.intro how' hBW))
           clear hordA hdo hdo2 hx3 how hK3 hB3 hBW how' hN7 hN2)
        | (have _t := hordA
           refine step_callx rfl 49 #[.agg #[.slice A2 g.nodes.length c2, .slice A3 g.ties.length c3], .agg #[.int .i64 what, .int .i64 node.id, .string node.kind, .slice Ar node.props.length cr, .string prop.name, .int .i64 prop.v.ty, .int .i64 prop.v.n, .string prop.v.s, .string tie.bond, .int .i64 tie.src, .int .i64 tie.dst]] (by kernel_rfl) hdo2 ?_
           rintro e w3 ⟨un, ut, rfl, how, ⟨A4, n4, c4, A5, n5, c5, rfl, rfl⟩, hB3, hK3⟩
           refine ⟨_, rfl, ?_⟩
           have hks := hK3.s
           have hxs : (w2.alloc (.cells #[.slice none 0 0, .slice none 0 0] 25)).heap.size = w2.heap.size + 1 := by simp
           have hN7 : w3.heap[w2.heap.size]? = some (.cells #[.slice none 0 0, .slice none 0 0] 25 (0, 0)) := (hK3.k w2.heap.size (by omega) (fun e => by have := (HO2.out.n.lt _ e.symm).2; omega) (fun e => by have := (HO2.out.t.lt _ e.symm).2; omega)).trans (heap_alloc_new _ _)
           have hN2 : w3.heap[w.heap.size + 1 + 1]? = some (.cells #[.slice none 0 0, .slice none 0 0] 25 (0, 0)) := by
             refine (hB3.block _ (by omega)).trans ?_
             rw [Below.heap_alloc _ _ _ (by omega)]
             exact (hb2'.block _ (by omega)).trans M2.out
           have how' : opE g ⟨what, node, prop, tie⟩ = 0 → ∃ xs, OwnG w3 w1.heap.size (.slice A4 n4 c4) (.slice A5 n5 c5) (opG g ⟨what, node, prop, tie⟩) xs := how
           have hBW : Below w.heap.size w w3 := hB1.trans (((hb2'.alloc (by omega) _).trans (hB3.mono (by omega))).mono hB1.size)
           have hb7s : w.heap.size + 1 + 1 < w2.heap.size := by omega
           have a0 := block_free hN7 0
           have a1 := block_free hN7 1
           have a2 := block_cell hN7 0
           have a3 := block_cell hN7 1
           have hfin := cut_facts (g := opG g ⟨what, node, prop, tie⟩) (P := opE g ⟨what, node, prop, tie⟩ = 0) hN7 hN2 hb7s how' hBW (by omega)
           clear hordA hdo hdo2 how hK3 hB3 hBW how' hN7 hN2)
        | (have _t := hordC
           refine step_callx rfl 49 #[.agg #[.slice A2 g.nodes.length c2, .slice A3 g.ties.length c3], .agg #[.int .i64 what, .int .i64 node.id, .string node.kind, .slice Ar node.props.length cr, .string prop.name, .int .i64 prop.v.ty, .int .i64 prop.v.n, .string prop.v.s, .string tie.bond, .int .i64 tie.src, .int .i64 tie.dst]] (by kernel_rfl) hdo ?_
           rintro e w3 ⟨un, ut, rfl, how, ⟨A4, n4, c4, A5, n5, c5, rfl, rfl⟩, hB3, hK3⟩
           refine ⟨_, rfl, ?_⟩
           have hks := hK3.s
           have hN7 : w3.heap[w1.heap.size]? = some (.cells #[.slice none 0 0, .slice none 0 0] 25 (0, 0)) := (hB3.block _ (by omega)).trans ((hb2.block _ (by omega)).trans (heap_alloc_new w1.drew _))
           have hN2 : w3.heap[w.heap.size + 1 + 1]? = some (.cells #[.slice none 0 0, .slice none 0 0] 25 (0, 0)) := (hB3.block _ (by omega)).trans ((hb2'.block _ (by omega)).trans M2.out)
           have how' : opE g ⟨what, node, prop, tie⟩ = 0 → ∃ xs, OwnG w3 w1.heap.size (.slice A4 n4 c4) (.slice A5 n5 c5) (opG g ⟨what, node, prop, tie⟩) xs := fun h => by
             obtain ⟨zs, hz⟩ := how h
             exact ⟨zs, hz.mono (by omega)⟩
           have hBW : Below w.heap.size w w3 := hB1.trans ((hb2'.trans (hB3.mono (by omega))).mono hB1.size)
           have hb7s : w.heap.size + 1 + 1 < w1.heap.size := by omega
           have a0 := block_free hN7 0
           have a1 := block_free hN7 1
           have a2 := block_cell hN7 0
           have a3 := block_cell hN7 1
           have hfin := cut_facts (g := opG g ⟨what, node, prop, tie⟩) (P := opE g ⟨what, node, prop, tie⟩ = 0) hN7 hN2 hb7s how' hBW (by omega)
           clear hordC hdo how hK3 hB3 hBW how' hN7 hN2))
    all_goals
      go_wp2_with fail
      go_meet
      exact ⟨_, _, _, _, _, _, _, rfl, rfl, hfin.1, hfin.2.1, hfin.2.2.1, hfin.2.2.2, hb7s⟩
  case rest =>
  obtain ⟨b7, A4, n4, c4, A5, n5, c5, rfl, rfl, hp7, hp2, hw4, hBW4, hb7s⟩ := hcut
  have HOW4 := Lib.hid hw4
  have p2 := hp2
  have z0 := block_cell hp7 0
  have z1 := block_cell hp7 1
  have a5 := block_free p2 0
  have a6 := block_free p2 1
  have a7 := block_cell p2 0
  have a8 := block_cell p2 1
  clear hp2 hp7 hw4
  by_cases hz : opE g ⟨what, node, prop, tie⟩ = 0
  · have HEE : Hid (errV (doE g ⟨what, node, prop, tie⟩) = .nilIface ∧ doG g ⟨what, node, prop, tie⟩ = opG g ⟨what, node, prop, tie⟩) := by
      have h0 : doE g ⟨what, node, prop, tie⟩ = 0 := by rw [HDE2.out]; exact hz
      exact ⟨by rw [h0]; rfl, by rw [HDG.out, if_pos h0]⟩
    obtain ⟨zs, hzs⟩ := HOW4.out hz
    rw [errV_zero hz]
    have p3 := setCell_block p2 0 (.slice A4 n4 c4)
    have p4 := setCell_block p3 1 (.slice A5 n5 c5)
    have HP4 := Lib.hid p4
    have HFIN : Hid (OwnG ((wc.setCell ⟨w.heap.size + 1 + 1, 0, none⟩ (.slice A4 n4 c4)).setCell ⟨w.heap.size + 1 + 1, 1, none⟩ (.slice A5 n5 c5)) w1.heap.size (.slice A4 n4 c4) (.slice A5 n5 c5) (opG g ⟨what, node, prop, tie⟩) zs) := by
      have hS5 : ∀ T, 25 ≠ T → Same T wc ((wc.setCell ⟨w.heap.size + 1 + 1, 0, none⟩ (.slice A4 n4 c4)).setCell ⟨w.heap.size + 1 + 1, 1, none⟩ (.slice A5 n5 c5)) := fun T hT => (Same.setCell (p := ⟨w.heap.size + 1 + 1, 0, none⟩) p2 hT _).trans (Same.setCell (p := ⟨w.heap.size + 1 + 1, 1, none⟩) p3 hT _)
      exact hzs.same (hS5 _ (by decide)) (hS5 _ (by decide)) (hS5 _ (by decide))
    clear hz hzs p2 p3 p4 HOW4
    go_wp2_with fail
    have k2 := block_cell HP4.out 0
    have k3 := block_cell HP4.out 1
    exact bodyPost_ret (v := .tuple #[.agg #[.slice A4 n4 c4, .slice A5 n5 c5], .nilIface]) (by simp [results, Tryz.results9, go_sem, k2, k3]) rfl
      ⟨.slice A4 n4 c4, .slice A5 n5 c5, by rw [HEE.out.1], by rw [HEE.out.2]; exact ⟨_, HFIN.out.mono hB1.size⟩, (hBW4.setCell (p := ⟨w.heap.size + 1 + 1, 0, none⟩) (by show w.heap.size ≤ w.heap.size + 1 + 1; omega) _).setCell (p := ⟨w.heap.size + 1 + 1, 1, none⟩) (by show w.heap.size ≤ w.heap.size + 1 + 1; omega) _⟩
  · have HEE : Hid (errV (doE g ⟨what, node, prop, tie⟩) = .iface 122 (.int .i64 (opE g ⟨what, node, prop, tie⟩)) ∧ doG g ⟨what, node, prop, tie⟩ = ⟨[], []⟩) := by
      have h0 : doE g ⟨what, node, prop, tie⟩ = opE g ⟨what, node, prop, tie⟩ := HDE2.out
      exact ⟨by rw [h0]; exact errV_some hz, by rw [HDG.out, h0, if_neg hz]⟩
    rw [errV_some hz]
    have p4 := setCell_block (setCell_block p2 0 (.slice none 0 0)) 1 (.slice none 0 0)
    have HP4 := Lib.hid p4
    clear hz p2 p4 HOW4
    go_wp2_with fail
    have k2 := block_cell HP4.out 0
    have k3 := block_cell HP4.out 1
    exact bodyPost_ret (v := .tuple #[.agg #[.slice none 0 0, .slice none 0 0], .iface 122 (.int .i64 (opE g ⟨what, node, prop, tie⟩))]) (by simp [results, Tryz.results9, go_sem, k2, k3]) rfl
      ⟨.slice none 0 0, .slice none 0 0, by rw [HEE.out.1], by rw [HEE.out.2]; exact ⟨[], OwnG.nil⟩, (hBW4.setCell (p := ⟨w.heap.size + 1 + 1, 0, none⟩) (by show w.heap.size ≤ w.heap.size + 1 + 1; omega) _).setCell (p := ⟨w.heap.size + 1 + 1, 1, none⟩) (by show w.heap.size ≤ w.heap.size + 1 + 1; omega) _⟩
theorem Do_any (g : Grf) (o : Opr) (vn vt vr : Value) (w : World) (hG : GrfR w vn vt g) (hO : OprR w vr o) :
    Calls Tryz.prog 9 #[.agg #[vn, vt], .agg (oprCells o vr)] w (RetG (doG g o) (doE g o) w) := (Do_own g o vn vt vr w hG hO).mono fun _ _ h => h.r
end Go.Proofs.YtngbbefpphinjaaGreatDoor

/- Plain: where a property of a name stands, as the document counts. No condition. -/
namespace Go.Proofs.YtngbbefpphinjaaGreatDoor

def atI (r : List Prp) (name : ByteArray) : Int := idxI (fun p => decide (p.name = name)) r
end Go.Proofs.YtngbbefpphinjaaGreatDoor

/- Contracts: schema.find, schema.Find, schema.bond, schema.Check, schema.Right. -/
namespace Go.Proofs.YtngbbefpphinjaaGreatDoor
open Go Go.RowKit



def rngB (b : Bnd) : Prop := b.mn < 0 ∨ 20 < b.mn ∨ (b.mx ≠ -1 ∧ (b.mx < b.mn ∨ 20 < b.mx))
instance (b : Bnd) : Decidable (rngB b) := by unfold rngB; infer_instance
end Go.Proofs.YtngbbefpphinjaaGreatDoor

/- Contracts: schema.Check, schema.Right. -/
namespace Go.Proofs.YtngbbefpphinjaaGreatDoor
open Go Go.RowKit

end Go.Proofs.YtngbbefpphinjaaGreatDoor

/- Contract: index.OwnSchema; schemas that a call owns. -/
namespace Go.Proofs.YtngbbefpphinjaaGreatDoor
open Go Go.RowKit

end Go.Proofs.YtngbbefpphinjaaGreatDoor

/- Contract: index.OwnSchema. -/
namespace Go.Proofs.YtngbbefpphinjaaGreatDoor
open Go Go.RowKit



end Go.Proofs.YtngbbefpphinjaaGreatDoor

/- Contracts: change.field, change.add. -/
namespace Go.Proofs.YtngbbefpphinjaaGreatDoor
open Go Go.RowKit


end Go.Proofs.YtngbbefpphinjaaGreatDoor

/- Plain: to look through a row from its head finds what the search by halves finds. No condition. -/
namespace Go.Proofs.YtngbbefpphinjaaGreatDoor
open Go

theorem idx_low {D : Type} {R : D → D → Bool} {c : D → Int} {p : D → Bool} {l : List D} (hc : chain R l = true) (mono : ∀ a b, R a b = true → 0 ≤ c a → 0 ≤ c b) (hz : ∀ a b, R a b = true → c b = 0 → c a < 0) (hp : ∀ x, p x = decide (c x = 0)) :
    idxI p l = if eqAt c l (lowI c l) = true then (lowI c l : Int) else -1 := by
  cases hq : eqAt c l (lowI c l) with
  | true =>
    rw [if_pos rfl]
    unfold eqAt at hq
    cases hd : l[lowI c l]? with
    | none => rw [hd] at hq; cases hq
    | some d =>
      rw [hd] at hq
      have h0 : c d = 0 := by simpa using hq
      refine idxI_hit (fun j x hj hx => ?_) hd (by rw [hp]; exact decide_eq_true h0)
      have := low_lt hj hx
      rw [hp]; exact decide_eq_false (by omega)
  | false =>
    rw [if_neg (by simp)]
    obtain ⟨b1, b2⟩ := low_parts hc mono hq hz
    refine idxI_miss fun j x hj hx => ?_
    have hm : x ∈ l := List.mem_of_getElem? hx
    rw [← List.take_append_drop (lowI c l) l] at hm
    rw [hp]
    rcases List.mem_append.1 hm with h | h
    · have := b1 x h; exact decide_eq_false (by omega)
    · have := b2 x h; exact decide_eq_false (by omega)
theorem idx_nod {l : List Nod} (hc : chain nodLt l = true) (id : Int) : rfI l id = if fhas l id = true then (fpos l id : Int) else -1 := by
  unfold rfI fhas fpos
  refine idx_low hc (nodC_mono id) (fun a b hab hb => ?_) (fun x => ?_)
  · unfold nodLt at hab; unfold nodC at *
    have := of_decide_eq_true hab
    exact cmpI_neg.2 (by rw [← cmpI_zero.1 hb]; exact this)
  · unfold nodC
    by_cases h : x.id = id
    · rw [decide_eq_true h, decide_eq_true (cmpI_zero.2 h)]
    · rw [decide_eq_false h, decide_eq_false (fun e => h (cmpI_zero.1 e))]
theorem idx_prp {r : List Prp} (hc : chain prpLt r = true) (nm : ByteArray) : atI r nm = if rhas r nm = true then (rpos r nm : Int) else -1 := by
  unfold atI rhas rpos
  refine idx_low hc (prpC_mono nm) (prp_hz nm) (fun x => ?_)
  unfold prpC
  by_cases h : x.name = nm
  · rw [decide_eq_true h, decide_eq_true (cmpS_zero.2 h)]
  · rw [decide_eq_false h, decide_eq_false (fun e => h (cmpS_zero.1 e))]
theorem idx_tie {l : List Tie} (hc : chain tieLt l = true) (t : Tie) : idxI (fun u => decide (u = t)) l = if thas l t = true then (tpos l t : Int) else -1 := by
  unfold thas tpos
  refine idx_low hc (tieC_mono t) (fun a b hab hb => ?_) (fun x => ?_)
  · unfold tieLt at hab; unfold tieC at *
    rw [← tieO_zero.1 hb]; exact of_decide_eq_true hab
  · unfold tieC
    by_cases h : x = t
    · rw [decide_eq_true h, decide_eq_true (tieO_zero.2 h)]
    · rw [decide_eq_false h, decide_eq_false (fun e => h (tieO_zero.1 e))]
end Go.Proofs.YtngbbefpphinjaaGreatDoor

/- Contract: kinsame.Schema, at two that read the same. No condition. -/
namespace Go.Proofs.YtngbbefpphinjaaGreatDoor
open Go Go.RowKit

end Go.Proofs.YtngbbefpphinjaaGreatDoor

/- Contract: kinsame.Ints: whether two lists of ints are the same. No condition. -/
namespace Go.Proofs.YtngbbefpphinjaaGreatDoor
open Go Go.RowKit


end Go.Proofs.YtngbbefpphinjaaGreatDoor
