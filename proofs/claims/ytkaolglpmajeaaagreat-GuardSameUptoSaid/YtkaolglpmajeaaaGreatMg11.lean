/- Parts: DelDo, OpenF, EmptyP, OpR, Chk0. -/
import Derived.Test.YtkaolglpmajeaaaGreatMg08
import Derived.Test.YtkaolglpmajeaaaGreatMg09
import Derived.Test.YtkaolglpmajeaaaGreatMg10
import Derived.Test.YtkaolglpmajeaaaGreatMg01
import Derived.Test.YtkaolglpmajeaaaGreatMg07
import Derived.Test.YtkaolglpmajeaaaGreatMg03
import Derived.Test.YtkaolglpmajeaaaGreatMg06
import Derived.Test.YtkaolglpmajeaaaGreatMg04
/- Contracts: delta.do, delta.Do. -/
namespace Go.Proofs.YtkaolglpmajeaaaGreat
open Go Go.RowKit

/-- An op as an argument. -/
def oprCells (o : Opr) (vr : Value) : Array Value := #[.int .i64 o.what, .int .i64 o.node.id, .string o.node.kind, vr, .string o.prop.name, .int .i64 o.prop.v.ty, .int .i64 o.prop.v.n, .string o.prop.v.s, .string o.tie.bond, .int .i64 o.tie.src, .int .i64 o.tie.dst]
structure OprR (w : World) (vr : Value) (o : Opr) : Prop where
  r : Sl prpL w vr o.node.props
  k : Sm o.node.kind
  i : I64 o.node.id
  p : o.prop.ok
  t : o.tie.ok
theorem OprR.below {w w' : World} {vr : Value} {o : Opr} (h : OprR w vr o) (hb : Below w.heap.size w w') : OprR w' vr o := ⟨h.r.below hb, h.k, h.i, h.p, h.t⟩
theorem do1_any (p : Prp) (r : List Prp) (v : Value) (b : Nat) (w : World) (hv : Sl prpL w v r) (hp : p.ok) (c0 : w.cell? ⟨b, 4, none⟩ = some (.string p.name)) (c1 : w.cell? ⟨b, 5, none⟩ = some (.int .i64 p.v.ty)) (c2 : w.cell? ⟨b, 6, none⟩ = some (.int .i64 p.v.n)) (c3 : w.cell? ⟨b, 7, none⟩ = some (.string p.v.s)) :
    Calls Tryz.prog 27 #[v, .pointer (some ⟨b, 0, none⟩)] w (RetO (setR r p) (setE r p) w) := by
  have h1 := set_own r p v w hv hp
  obtain ⟨z, hz⟩ : ∃ z, z = errV (setE r p) := ⟨_, rfl⟩
  have HZ := Lib.hid hz
  obtain ⟨A, c, rfl, _, _⟩ := hv.form
  clear hv
  go_enter Tryz.func27, Tryz.ntmps27
  go_wp2_with fail
  refine h1.mono ?_
  clear h1
  rintro e w1 ⟨u, he, hu, hb⟩
  rw [← HZ.out] at he
  subst he
  obtain ⟨A2, c2, rfl, _, _⟩ := hu.1.form
  have HU := Lib.hid hu
  clear hz hu
  go_wp2_with fail
  go_ret2
  exact ⟨_, by rw [HZ.out]; rfl, HU.out, hb⟩
theorem do2_any (nm : ByteArray) (r : List Prp) (v : Value) (b : Nat) (w : World) (hv : Sl prpL w v r) (c0 : w.cell? ⟨b, 4, none⟩ = some (.string nm)) :
    Calls Tryz.prog 29 #[v, .pointer (some ⟨b, 0, none⟩)] w (RetO (unsetR r nm) (unsetE r nm) w) := by
  have h1 := unset_own r nm v w hv
  obtain ⟨z, hz⟩ : ∃ z, z = errV (unsetE r nm) := ⟨_, rfl⟩
  have HZ := Lib.hid hz
  obtain ⟨A, c, rfl, _, _⟩ := hv.form
  clear hv
  go_enter Tryz.func29, Tryz.ntmps29
  go_wp2_with fail
  refine h1.mono ?_
  clear h1
  rintro e w1 ⟨u, he, hu, hb⟩
  rw [← HZ.out] at he
  subst he
  obtain ⟨A2, c2, rfl, _, _⟩ := hu.1.form
  have HU := Lib.hid hu
  clear hz hu
  go_wp2_with fail
  go_ret2
  exact ⟨_, by rw [HZ.out]; rfl, HU.out, hb⟩
set_option maxRecDepth 100000 in
set_option maxHeartbeats 16000000 in
theorem do_any (g : Grf) (o : Opr) (vn vt vr : Value) (xs : List Value) (B : Nat) (w : World) (hB : B ≤ w.heap.size) (hG : OwnG w B vn vt g xs) (hO : OprR w vr o) (hcn : chain nodLt g.nodes = true) (hct : chain tieLt g.ties = true) (hn : g.nodes.length ≤ 1000) (ht : g.ties.length ≤ 1000) :
    Calls Tryz.prog 13 #[.agg #[vn, vt], .agg (oprCells o vr)] w (RetOG B vn vt (opG g o) (opE g o) w) := by
  obtain ⟨An, cn, rfl, _, _⟩ := hG.n.form
  obtain ⟨At, ct, rfl, _, _⟩ := hG.t.form
  obtain ⟨Ar, cr, rfl, _, _⟩ := hO.r.form
  obtain ⟨what, node, prop, tie⟩ := o
  have hO' : OprR w (.slice Ar node.props.length cr) ⟨what, node, prop, tie⟩ := hO
  clear hO
  show Calls Tryz.prog 13 #[.agg #[.slice An g.nodes.length cn, .slice At g.ties.length ct], .agg #[.int .i64 what, .int .i64 node.id, .string node.kind, .slice Ar node.props.length cr, .string prop.name, .int .i64 prop.v.ty, .int .i64 prop.v.n, .string prop.v.s, .string tie.bond, .int .i64 tie.src, .int .i64 tie.dst]] w _
  obtain ⟨W0, hW0⟩ : ∃ W0, W0 = (((w.alloc (.cells #[.slice An g.nodes.length cn, .slice At g.ties.length ct] 29)).alloc (.cells #[.int .i64 what, .int .i64 node.id, .string node.kind, .slice Ar node.props.length cr, .string prop.name, .int .i64 prop.v.ty, .int .i64 prop.v.n, .string prop.v.s, .string tie.bond, .int .i64 tie.src, .int .i64 tie.dst] 48)).alloc (.cells #[.slice none 0 0, .slice none 0 0] 29)) := ⟨_, rfl⟩
  have hb0 : Below w.heap.size w W0 := by rw [hW0]; exact (((Below.refl _ _).alloc (Nat.le_refl _) _).alloc (by simp) _).alloc (by simp; omega) _
  have g0 : W0.heap[w.heap.size]? = some (.cells #[.slice An g.nodes.length cn, .slice At g.ties.length ct] 29 (0, 0)) := by
    rw [hW0, Below.heap_alloc _ _ _ (by simp; omega), Below.heap_alloc _ _ _ (by simp)]; exact heap_alloc_new _ _
  have g1 : W0.heap[w.heap.size + 1]? = some (.cells #[.int .i64 what, .int .i64 node.id, .string node.kind, .slice Ar node.props.length cr, .string prop.name, .int .i64 prop.v.ty, .int .i64 prop.v.n, .string prop.v.s, .string tie.bond, .int .i64 tie.src, .int .i64 tie.dst] 48 (0, 0)) := by
    rw [hW0, Below.heap_alloc _ _ _ (by simp)]
    have := heap_alloc_new (w.alloc (.cells #[.slice An g.nodes.length cn, .slice At g.ties.length ct] 29)) (.cells #[.int .i64 what, .int .i64 node.id, .string node.kind, .slice Ar node.props.length cr, .string prop.name, .int .i64 prop.v.ty, .int .i64 prop.v.n, .string prop.v.s, .string tie.bond, .int .i64 tie.src, .int .i64 tie.dst] 48); simpa using this
  have g2 : W0.heap[w.heap.size + 1 + 1]? = some (.cells #[.slice none 0 0, .slice none 0 0] 29 (0, 0)) := by
    have := heap_alloc_new ((w.alloc (.cells #[.slice An g.nodes.length cn, .slice At g.ties.length ct] 29)).alloc (.cells #[.int .i64 what, .int .i64 node.id, .string node.kind, .slice Ar node.props.length cr, .string prop.name, .int .i64 prop.v.ty, .int .i64 prop.v.n, .string prop.v.s, .string tie.bond, .int .i64 tie.src, .int .i64 tie.dst] 48)) (.cells #[.slice none 0 0, .slice none 0 0] 29); rw [hW0]; simpa using this
  have hsz : W0.heap.size = w.heap.size + 3 := by rw [hW0]; simp
  have hW0' := hW0.symm
  have HG := Lib.hid hG
  have HG0 := Lib.hid (hG.below hb0)
  have HO0 := Lib.hid (hO'.below hb0)
  have M2 := Lib.hid g2
  have x0 := block_cell g0 0
  have x1 := block_cell g0 1
  have y0 := block_cell g1 0
  have y1 := block_cell g1 1
  have y2 := block_cell g1 2
  have y3 := block_cell g1 3
  have y4 := block_cell g1 4
  have y5 := block_cell g1 5
  have y6 := block_cell g1 6
  have y7 := block_cell g1 7
  have y8 := block_cell g1 8
  have y9 := block_cell g1 9
  have y10 := block_cell g1 10
  clear hG hO' g0 g1 g2 hW0
  by_cases h1 : what = 1
  · subst h1
    have HE : Hid (opE g ⟨1, node, prop, tie⟩ = bornE g node ∧ opG g ⟨1, node, prop, tie⟩ = bornG g node) := ⟨rfl, rfl⟩
    have hcall := born_any g node _ _ _ xs B W0 (by omega) HG0.out hcn hn HO0.out.r HO0.out.k HO0.out.i
    go_enter Tryz.func13, Tryz.ntmps13
    go_wp2_with fail
    refine hcall.mono ?_
    clear hcall
    obtain ⟨z, hz⟩ : ∃ z, z = errV (bornE g node) := ⟨_, rfl⟩
    have HZ := Lib.hid hz
    clear hz
    rintro e w1 ⟨un, ut, he, hown, ⟨A1, n1, c1, A2, n2, c2, rfl, rfl⟩, hB1, hK1⟩
    rw [← HZ.out] at he
    subst he
    have hs1 := hK1.s
    have n2' := (hK1.k (w.heap.size + 1 + 1) (by omega) (fun e => by have := (HG.out.n.lt _ e.symm).2; omega) (fun e => by have := (HG.out.t.lt _ e.symm).2; omega)).trans M2.out
    have a5 := block_free n2' 0
    have a6 := block_free n2' 1
    have a7 := block_cell n2' 0
    have a8 := block_cell n2' 1
    have p3 := setCell_block n2' 0 (.slice A1 n1 c1)
    have p4 := setCell_block p3 1 (.slice A2 n2 c2)
    have HP4 := Lib.hid p4
    have HS : Hid (∀ T, 29 ≠ T → Same T w1 ((w1.setCell ⟨w.heap.size + 1 + 1, 0, none⟩ (.slice A1 n1 c1)).setCell ⟨w.heap.size + 1 + 1, 1, none⟩ (.slice A2 n2 c2))) := fun T hT =>
      (Same.setCell (p := ⟨w.heap.size + 1 + 1, 0, none⟩) n2' hT _).trans (Same.setCell (p := ⟨w.heap.size + 1 + 1, 1, none⟩) p3 hT _)
    have HOW := Lib.hid hown
    have HK1 := Lib.hid hK1
    clear n2' p3 p4 hown hK1
    go_wp2_with fail
    have k2 := block_cell HP4.out 0
    have k3 := block_cell HP4.out 1
    have hk1 : Keep2 w w1 (.slice An g.nodes.length cn) (.slice At g.ties.length ct) := ⟨by omega, fun k hk h1 h2 => (HK1.out.k k (by omega) h1 h2).trans (hb0.block k hk)⟩
    exact bodyPost_ret (v := .tuple #[.agg #[.slice A1 n1 c1, .slice A2 n2 c2], z]) (by simp [results, Tryz.results13, go_sem, k2, k3]) rfl
      ⟨.slice A1 n1 c1, .slice A2 n2 c2, by rw [HZ.out, HE.out.1], (fun h => by
        obtain ⟨ys, hy⟩ := HOW.out (by rw [← HE.out.1]; exact h)
        rw [HE.out.2]
        exact ⟨ys, hy.same (HS.out _ (by decide)) (HS.out _ (by decide)) (HS.out _ (by decide))⟩), ⟨_, _, _, _, _, _, rfl, rfl⟩,
        (((Below.mono hb0 hB).trans hB1).setCell (p := ⟨w.heap.size + 1 + 1, 0, none⟩) (by show B ≤ w.heap.size + 1 + 1; omega) _).setCell (p := ⟨w.heap.size + 1 + 1, 1, none⟩) (by show B ≤ w.heap.size + 1 + 1; omega) _,
        (hk1.box (p := ⟨w.heap.size + 1 + 1, 0, none⟩) (by show w.heap.size ≤ w.heap.size + 1 + 1; omega) _).box (p := ⟨w.heap.size + 1 + 1, 1, none⟩) (by show w.heap.size ≤ w.heap.size + 1 + 1; omega) _⟩
  by_cases h2 : what = 2
  · subst h2
    have HE : Hid (opE g ⟨2, node, prop, tie⟩ = (if fhas g.nodes node.id then 0 else 5) ∧ opG g ⟨2, node, prop, tie⟩ = goneG g node.id) := ⟨rfl, rfl⟩
    have hcall := gone_any g node.id _ _ xs B W0 (by omega) HG0.out hcn hn ht
    go_enter Tryz.func13, Tryz.ntmps13
    go_wp2_with fail
    refine hcall.mono ?_
    clear hcall
    obtain ⟨z, hz⟩ : ∃ z, z = errV (if fhas g.nodes node.id then 0 else 5) := ⟨_, rfl⟩
    have HZ := Lib.hid hz
    clear hz
    rintro e w1 ⟨un, ut, he, hown, ⟨A1, n1, c1, A2, n2, c2, rfl, rfl⟩, hB1, hK1⟩
    rw [← HZ.out] at he
    subst he
    have hs1 := hK1.s
    have n2' := (hK1.k (w.heap.size + 1 + 1) (by omega) (fun e => by have := (HG.out.n.lt _ e.symm).2; omega) (fun e => by have := (HG.out.t.lt _ e.symm).2; omega)).trans M2.out
    have a5 := block_free n2' 0
    have a6 := block_free n2' 1
    have a7 := block_cell n2' 0
    have a8 := block_cell n2' 1
    have p3 := setCell_block n2' 0 (.slice A1 n1 c1)
    have p4 := setCell_block p3 1 (.slice A2 n2 c2)
    have HP4 := Lib.hid p4
    have HS : Hid (∀ T, 29 ≠ T → Same T w1 ((w1.setCell ⟨w.heap.size + 1 + 1, 0, none⟩ (.slice A1 n1 c1)).setCell ⟨w.heap.size + 1 + 1, 1, none⟩ (.slice A2 n2 c2))) := fun T hT =>
      (Same.setCell (p := ⟨w.heap.size + 1 + 1, 0, none⟩) n2' hT _).trans (Same.setCell (p := ⟨w.heap.size + 1 + 1, 1, none⟩) p3 hT _)
    have HOW := Lib.hid hown
    have HK1 := Lib.hid hK1
    clear n2' p3 p4 hown hK1
    go_wp2_with fail
    have k2 := block_cell HP4.out 0
    have k3 := block_cell HP4.out 1
    have hk1 : Keep2 w w1 (.slice An g.nodes.length cn) (.slice At g.ties.length ct) := ⟨by omega, fun k hk h1 h2 => (HK1.out.k k (by omega) h1 h2).trans (hb0.block k hk)⟩
    exact bodyPost_ret (v := .tuple #[.agg #[.slice A1 n1 c1, .slice A2 n2 c2], z]) (by simp [results, Tryz.results13, go_sem, k2, k3]) rfl
      ⟨.slice A1 n1 c1, .slice A2 n2 c2, by rw [HZ.out, HE.out.1], (fun h => by
        obtain ⟨ys, hy⟩ := HOW.out (by rw [← HE.out.1]; exact h)
        rw [HE.out.2]
        exact ⟨ys, hy.same (HS.out _ (by decide)) (HS.out _ (by decide)) (HS.out _ (by decide))⟩), ⟨_, _, _, _, _, _, rfl, rfl⟩,
        (((Below.mono hb0 hB).trans hB1).setCell (p := ⟨w.heap.size + 1 + 1, 0, none⟩) (by show B ≤ w.heap.size + 1 + 1; omega) _).setCell (p := ⟨w.heap.size + 1 + 1, 1, none⟩) (by show B ≤ w.heap.size + 1 + 1; omega) _,
        (hk1.box (p := ⟨w.heap.size + 1 + 1, 0, none⟩) (by show w.heap.size ≤ w.heap.size + 1 + 1; omega) _).box (p := ⟨w.heap.size + 1 + 1, 1, none⟩) (by show w.heap.size ≤ w.heap.size + 1 + 1; omega) _⟩
  by_cases h3 : what = 3
  · subst h3
    have HE : Hid (opE g ⟨3, node, prop, tie⟩ = chgE g node.id (fun r => setE r prop) ∧ opG g ⟨3, node, prop, tie⟩ = chgG g node.id (fun r => setR r prop)) := ⟨rfl, rfl⟩
    have hcall := chg_any 27 #[.pointer (some ⟨w.heap.size + 1, 0, none⟩)] (by intro args w; kernel_rfl) (fun r => setR r prop) (fun r => setE r prop) g node.id _ _ xs B W0 (by omega) HG0.out hcn hn
      (fun r v w' hb hs => do1_any prop r v (w.heap.size + 1) w' hs HO0.out.p (cell_below hb y4) (cell_below hb y5) (cell_below hb y6) (cell_below hb y7))
    go_enter Tryz.func13, Tryz.ntmps13
    go_wp2_with fail
    refine hcall.mono ?_
    clear hcall
    obtain ⟨z, hz⟩ : ∃ z, z = errV (chgE g node.id (fun r => setE r prop)) := ⟨_, rfl⟩
    have HZ := Lib.hid hz
    clear hz
    rintro e w1 ⟨un, ut, he, hown, ⟨A1, n1, c1, A2, n2, c2, rfl, rfl⟩, hB1, hK1⟩
    rw [← HZ.out] at he
    subst he
    have hs1 := hK1.s
    have n2' := (hK1.k (w.heap.size + 1 + 1) (by omega) (fun e => by have := (HG.out.n.lt _ e.symm).2; omega) (fun e => by have := (HG.out.t.lt _ e.symm).2; omega)).trans M2.out
    have a5 := block_free n2' 0
    have a6 := block_free n2' 1
    have a7 := block_cell n2' 0
    have a8 := block_cell n2' 1
    have p3 := setCell_block n2' 0 (.slice A1 n1 c1)
    have p4 := setCell_block p3 1 (.slice A2 n2 c2)
    have HP4 := Lib.hid p4
    have HS : Hid (∀ T, 29 ≠ T → Same T w1 ((w1.setCell ⟨w.heap.size + 1 + 1, 0, none⟩ (.slice A1 n1 c1)).setCell ⟨w.heap.size + 1 + 1, 1, none⟩ (.slice A2 n2 c2))) := fun T hT =>
      (Same.setCell (p := ⟨w.heap.size + 1 + 1, 0, none⟩) n2' hT _).trans (Same.setCell (p := ⟨w.heap.size + 1 + 1, 1, none⟩) p3 hT _)
    have HOW := Lib.hid hown
    have HK1 := Lib.hid hK1
    clear n2' p3 p4 hown hK1
    go_wp2_with fail
    have k2 := block_cell HP4.out 0
    have k3 := block_cell HP4.out 1
    have hk1 : Keep2 w w1 (.slice An g.nodes.length cn) (.slice At g.ties.length ct) := ⟨by omega, fun k hk h1 h2 => (HK1.out.k k (by omega) h1 h2).trans (hb0.block k hk)⟩
    exact bodyPost_ret (v := .tuple #[.agg #[.slice A1 n1 c1, .slice A2 n2 c2], z]) (by simp [results, Tryz.results13, go_sem, k2, k3]) rfl
      ⟨.slice A1 n1 c1, .slice A2 n2 c2, by rw [HZ.out, HE.out.1], (fun h => by
        obtain ⟨ys, hy⟩ := HOW.out (by rw [← HE.out.1]; exact h)
        rw [HE.out.2]
        exact ⟨ys, hy.same (HS.out _ (by decide)) (HS.out _ (by decide)) (HS.out _ (by decide))⟩), ⟨_, _, _, _, _, _, rfl, rfl⟩,
        (((Below.mono hb0 hB).trans hB1).setCell (p := ⟨w.heap.size + 1 + 1, 0, none⟩) (by show B ≤ w.heap.size + 1 + 1; omega) _).setCell (p := ⟨w.heap.size + 1 + 1, 1, none⟩) (by show B ≤ w.heap.size + 1 + 1; omega) _,
        (hk1.box (p := ⟨w.heap.size + 1 + 1, 0, none⟩) (by show w.heap.size ≤ w.heap.size + 1 + 1; omega) _).box (p := ⟨w.heap.size + 1 + 1, 1, none⟩) (by show w.heap.size ≤ w.heap.size + 1 + 1; omega) _⟩
  by_cases h4 : what = 4
  · subst h4
    have HE : Hid (opE g ⟨4, node, prop, tie⟩ = chgE g node.id (fun r => unsetE r prop.name) ∧ opG g ⟨4, node, prop, tie⟩ = chgG g node.id (fun r => unsetR r prop.name)) := ⟨rfl, rfl⟩
    have hcall := chg_any 29 #[.pointer (some ⟨w.heap.size + 1, 0, none⟩)] (by intro args w; kernel_rfl) (fun r => unsetR r prop.name) (fun r => unsetE r prop.name) g node.id _ _ xs B W0 (by omega) HG0.out hcn hn
      (fun r v w' hb hs => do2_any prop.name r v (w.heap.size + 1) w' hs (cell_below hb y4))
    go_enter Tryz.func13, Tryz.ntmps13
    go_wp2_with fail
    refine hcall.mono ?_
    clear hcall
    obtain ⟨z, hz⟩ : ∃ z, z = errV (chgE g node.id (fun r => unsetE r prop.name)) := ⟨_, rfl⟩
    have HZ := Lib.hid hz
    clear hz
    rintro e w1 ⟨un, ut, he, hown, ⟨A1, n1, c1, A2, n2, c2, rfl, rfl⟩, hB1, hK1⟩
    rw [← HZ.out] at he
    subst he
    have hs1 := hK1.s
    have n2' := (hK1.k (w.heap.size + 1 + 1) (by omega) (fun e => by have := (HG.out.n.lt _ e.symm).2; omega) (fun e => by have := (HG.out.t.lt _ e.symm).2; omega)).trans M2.out
    have a5 := block_free n2' 0
    have a6 := block_free n2' 1
    have a7 := block_cell n2' 0
    have a8 := block_cell n2' 1
    have p3 := setCell_block n2' 0 (.slice A1 n1 c1)
    have p4 := setCell_block p3 1 (.slice A2 n2 c2)
    have HP4 := Lib.hid p4
    have HS : Hid (∀ T, 29 ≠ T → Same T w1 ((w1.setCell ⟨w.heap.size + 1 + 1, 0, none⟩ (.slice A1 n1 c1)).setCell ⟨w.heap.size + 1 + 1, 1, none⟩ (.slice A2 n2 c2))) := fun T hT =>
      (Same.setCell (p := ⟨w.heap.size + 1 + 1, 0, none⟩) n2' hT _).trans (Same.setCell (p := ⟨w.heap.size + 1 + 1, 1, none⟩) p3 hT _)
    have HOW := Lib.hid hown
    have HK1 := Lib.hid hK1
    clear n2' p3 p4 hown hK1
    go_wp2_with fail
    have k2 := block_cell HP4.out 0
    have k3 := block_cell HP4.out 1
    have hk1 : Keep2 w w1 (.slice An g.nodes.length cn) (.slice At g.ties.length ct) := ⟨by omega, fun k hk h1 h2 => (HK1.out.k k (by omega) h1 h2).trans (hb0.block k hk)⟩
    exact bodyPost_ret (v := .tuple #[.agg #[.slice A1 n1 c1, .slice A2 n2 c2], z]) (by simp [results, Tryz.results13, go_sem, k2, k3]) rfl
      ⟨.slice A1 n1 c1, .slice A2 n2 c2, by rw [HZ.out, HE.out.1], (fun h => by
        obtain ⟨ys, hy⟩ := HOW.out (by rw [← HE.out.1]; exact h)
        rw [HE.out.2]
        exact ⟨ys, hy.same (HS.out _ (by decide)) (HS.out _ (by decide)) (HS.out _ (by decide))⟩), ⟨_, _, _, _, _, _, rfl, rfl⟩,
        (((Below.mono hb0 hB).trans hB1).setCell (p := ⟨w.heap.size + 1 + 1, 0, none⟩) (by show B ≤ w.heap.size + 1 + 1; omega) _).setCell (p := ⟨w.heap.size + 1 + 1, 1, none⟩) (by show B ≤ w.heap.size + 1 + 1; omega) _,
        (hk1.box (p := ⟨w.heap.size + 1 + 1, 0, none⟩) (by show w.heap.size ≤ w.heap.size + 1 + 1; omega) _).box (p := ⟨w.heap.size + 1 + 1, 1, none⟩) (by show w.heap.size ≤ w.heap.size + 1 + 1; omega) _⟩
  by_cases h5 : what = 5
  · subst h5
    have HE : Hid (opE g ⟨5, node, prop, tie⟩ = tieErr g tie true ∧ opG g ⟨5, node, prop, tie⟩ = tieG g tie true) := ⟨rfl, rfl⟩
    have hcall := tie_any g tie true _ _ xs B W0 (by omega) HG0.out hct ht HO0.out.t
    go_enter Tryz.func13, Tryz.ntmps13
    go_wp2_with fail
    refine hcall.mono ?_
    clear hcall
    obtain ⟨z, hz⟩ : ∃ z, z = errV (tieErr g tie true) := ⟨_, rfl⟩
    have HZ := Lib.hid hz
    clear hz
    rintro e w1 ⟨un, ut, he, hown, ⟨A1, n1, c1, A2, n2, c2, rfl, rfl⟩, hB1, hK1⟩
    rw [← HZ.out] at he
    subst he
    have hs1 := hK1.s
    have n2' := (hK1.k (w.heap.size + 1 + 1) (by omega) (fun e => by have := (HG.out.n.lt _ e.symm).2; omega) (fun e => by have := (HG.out.t.lt _ e.symm).2; omega)).trans M2.out
    have a5 := block_free n2' 0
    have a6 := block_free n2' 1
    have a7 := block_cell n2' 0
    have a8 := block_cell n2' 1
    have p3 := setCell_block n2' 0 (.slice A1 n1 c1)
    have p4 := setCell_block p3 1 (.slice A2 n2 c2)
    have HP4 := Lib.hid p4
    have HS : Hid (∀ T, 29 ≠ T → Same T w1 ((w1.setCell ⟨w.heap.size + 1 + 1, 0, none⟩ (.slice A1 n1 c1)).setCell ⟨w.heap.size + 1 + 1, 1, none⟩ (.slice A2 n2 c2))) := fun T hT =>
      (Same.setCell (p := ⟨w.heap.size + 1 + 1, 0, none⟩) n2' hT _).trans (Same.setCell (p := ⟨w.heap.size + 1 + 1, 1, none⟩) p3 hT _)
    have HOW := Lib.hid hown
    have HK1 := Lib.hid hK1
    clear n2' p3 p4 hown hK1
    go_wp2_with fail
    have k2 := block_cell HP4.out 0
    have k3 := block_cell HP4.out 1
    have hk1 : Keep2 w w1 (.slice An g.nodes.length cn) (.slice At g.ties.length ct) := ⟨by omega, fun k hk h1 h2 => (HK1.out.k k (by omega) h1 h2).trans (hb0.block k hk)⟩
    exact bodyPost_ret (v := .tuple #[.agg #[.slice A1 n1 c1, .slice A2 n2 c2], z]) (by simp [results, Tryz.results13, go_sem, k2, k3]) rfl
      ⟨.slice A1 n1 c1, .slice A2 n2 c2, by rw [HZ.out, HE.out.1], (fun h => by
        obtain ⟨ys, hy⟩ := HOW.out (by rw [← HE.out.1]; exact h)
        rw [HE.out.2]
        exact ⟨ys, hy.same (HS.out _ (by decide)) (HS.out _ (by decide)) (HS.out _ (by decide))⟩), ⟨_, _, _, _, _, _, rfl, rfl⟩,
        (((Below.mono hb0 hB).trans hB1).setCell (p := ⟨w.heap.size + 1 + 1, 0, none⟩) (by show B ≤ w.heap.size + 1 + 1; omega) _).setCell (p := ⟨w.heap.size + 1 + 1, 1, none⟩) (by show B ≤ w.heap.size + 1 + 1; omega) _,
        (hk1.box (p := ⟨w.heap.size + 1 + 1, 0, none⟩) (by show w.heap.size ≤ w.heap.size + 1 + 1; omega) _).box (p := ⟨w.heap.size + 1 + 1, 1, none⟩) (by show w.heap.size ≤ w.heap.size + 1 + 1; omega) _⟩
  by_cases h6 : what = 6
  · subst h6
    have HE : Hid (opE g ⟨6, node, prop, tie⟩ = tieErr g tie false ∧ opG g ⟨6, node, prop, tie⟩ = tieG g tie false) := ⟨rfl, rfl⟩
    have hcall := tie_any g tie false _ _ xs B W0 (by omega) HG0.out hct ht HO0.out.t
    go_enter Tryz.func13, Tryz.ntmps13
    go_wp2_with fail
    refine hcall.mono ?_
    clear hcall
    obtain ⟨z, hz⟩ : ∃ z, z = errV (tieErr g tie false) := ⟨_, rfl⟩
    have HZ := Lib.hid hz
    clear hz
    rintro e w1 ⟨un, ut, he, hown, ⟨A1, n1, c1, A2, n2, c2, rfl, rfl⟩, hB1, hK1⟩
    rw [← HZ.out] at he
    subst he
    have hs1 := hK1.s
    have n2' := (hK1.k (w.heap.size + 1 + 1) (by omega) (fun e => by have := (HG.out.n.lt _ e.symm).2; omega) (fun e => by have := (HG.out.t.lt _ e.symm).2; omega)).trans M2.out
    have a5 := block_free n2' 0
    have a6 := block_free n2' 1
    have a7 := block_cell n2' 0
    have a8 := block_cell n2' 1
    have p3 := setCell_block n2' 0 (.slice A1 n1 c1)
    have p4 := setCell_block p3 1 (.slice A2 n2 c2)
    have HP4 := Lib.hid p4
    have HS : Hid (∀ T, 29 ≠ T → Same T w1 ((w1.setCell ⟨w.heap.size + 1 + 1, 0, none⟩ (.slice A1 n1 c1)).setCell ⟨w.heap.size + 1 + 1, 1, none⟩ (.slice A2 n2 c2))) := fun T hT =>
      (Same.setCell (p := ⟨w.heap.size + 1 + 1, 0, none⟩) n2' hT _).trans (Same.setCell (p := ⟨w.heap.size + 1 + 1, 1, none⟩) p3 hT _)
    have HOW := Lib.hid hown
    have HK1 := Lib.hid hK1
    clear n2' p3 p4 hown hK1
    go_wp2_with fail
    have k2 := block_cell HP4.out 0
    have k3 := block_cell HP4.out 1
    have hk1 : Keep2 w w1 (.slice An g.nodes.length cn) (.slice At g.ties.length ct) := ⟨by omega, fun k hk h1 h2 => (HK1.out.k k (by omega) h1 h2).trans (hb0.block k hk)⟩
    exact bodyPost_ret (v := .tuple #[.agg #[.slice A1 n1 c1, .slice A2 n2 c2], z]) (by simp [results, Tryz.results13, go_sem, k2, k3]) rfl
      ⟨.slice A1 n1 c1, .slice A2 n2 c2, by rw [HZ.out, HE.out.1], (fun h => by
        obtain ⟨ys, hy⟩ := HOW.out (by rw [← HE.out.1]; exact h)
        rw [HE.out.2]
        exact ⟨ys, hy.same (HS.out _ (by decide)) (HS.out _ (by decide)) (HS.out _ (by decide))⟩), ⟨_, _, _, _, _, _, rfl, rfl⟩,
        (((Below.mono hb0 hB).trans hB1).setCell (p := ⟨w.heap.size + 1 + 1, 0, none⟩) (by show B ≤ w.heap.size + 1 + 1; omega) _).setCell (p := ⟨w.heap.size + 1 + 1, 1, none⟩) (by show B ≤ w.heap.size + 1 + 1; omega) _,
        (hk1.box (p := ⟨w.heap.size + 1 + 1, 0, none⟩) (by show w.heap.size ≤ w.heap.size + 1 + 1; omega) _).box (p := ⟨w.heap.size + 1 + 1, 1, none⟩) (by show w.heap.size ≤ w.heap.size + 1 + 1; omega) _⟩
  have HE : Hid (opE g ⟨what, node, prop, tie⟩ = 1) := by
    unfold Hid opE
    simp only [h1, h2, h3, h4, h5, h6, if_false]
  have b1 : (what == 1) = false := beq_eq_false_iff_ne.2 h1
  have b2 : (what == 2) = false := beq_eq_false_iff_ne.2 h2
  have b3 : (what == 3) = false := beq_eq_false_iff_ne.2 h3
  have b4 : (what == 4) = false := beq_eq_false_iff_ne.2 h4
  have b5 : (what == 5) = false := beq_eq_false_iff_ne.2 h5
  have b6 : (what == 6) = false := beq_eq_false_iff_ne.2 h6
  have HB0 := Lib.hid hb0
  have a5 := block_free M2.out 0
  have a6 := block_free M2.out 1
  have a7 := block_cell M2.out 0
  have a8 := block_cell M2.out 1
  have p3 := setCell_block M2.out 0 (.slice An g.nodes.length cn)
  have p4 := setCell_block p3 1 (.slice At g.ties.length ct)
  have HP4 := Lib.hid p4
  clear p3 p4
  go_enter Tryz.func13, Tryz.ntmps13
  go_wp2_with fail
  have k2 := block_cell HP4.out 0
  have k3 := block_cell HP4.out 1
  exact bodyPost_ret (v := .tuple #[.agg #[.slice An g.nodes.length cn, .slice At g.ties.length ct], .iface 65 (.int .i64 1)]) (by simp [results, Tryz.results13, go_sem, k2, k3]) rfl
    ⟨.slice An g.nodes.length cn, .slice At g.ties.length ct, by rw [HE.out]; rfl, (fun h => by rw [HE.out] at h; exact absurd h (by decide)), ⟨_, _, _, _, _, _, rfl, rfl⟩,
      ((HB0.out.mono hB).setCell (p := ⟨w.heap.size + 1 + 1, 0, none⟩) (by show B ≤ w.heap.size + 1 + 1; omega) _).setCell (p := ⟨w.heap.size + 1 + 1, 1, none⟩) (by show B ≤ w.heap.size + 1 + 1; omega) _,
      ((Keep2.below HB0.out).box (p := ⟨w.heap.size + 1 + 1, 0, none⟩) (by show w.heap.size ≤ w.heap.size + 1 + 1; omega) _).box (p := ⟨w.heap.size + 1 + 1, 1, none⟩) (by show w.heap.size ≤ w.heap.size + 1 + 1; omega) _⟩
end Go.Proofs.YtkaolglpmajeaaaGreat

/- Plain: ops as an argument. -/
namespace Go.Proofs.YtkaolglpmajeaaaGreat
open Go Go.RowKit Go.Deep Go.ChangeShapes Go.WideShapes Go.Joins

def oprL : Lay Opr where
  sz := 11
  cells w o cs := ∃ vr, cs = (oprCells o vr).toList ∧ OprR w vr o
  len h := by obtain ⟨v, rfl, _⟩ := h; rfl
  below hb h := by obtain ⟨v, rfl, h1⟩ := h; exact ⟨v, rfl, h1.below hb⟩
set_option maxRecDepth 100000 in
theorem o_opr : Opens Tryz.prog oprL 48 := by
  intro H enc w base spare held fuel cs x hx hb
  obtain ⟨hl, hf⟩ := field_at Tryz.underlying48 hx hb
  rw [show Tryz.prog.cellsOf 48 = 11 from by kernel_rfl] at hl
  match cs, hl with
  | [c0, c1, c2, c3, c4, c5, c6, c7, c8, c9, c10], _ =>
    obtain ⟨a0, e0, h0⟩ := hf (L := intL) 0 _ 1 rfl (by kernel_rfl) oInt
    have e0 : [c0] = [.int .i64 a0] := e0
    injection e0 with e0 _
    subst e0
    obtain ⟨a1, vr, e1, k0, k1, k2⟩ := hf (L := nodL) 1 _ 3 rfl (by kernel_rfl) o_nod
    have e1 : [c1, c2, c3] = [.int .i64 a1.id, .string a1.kind, vr] := e1
    injection e1 with e1 e2
    injection e2 with e2 e3
    injection e3 with e3 _
    subst e1; subst e2; subst e3
    obtain ⟨a2, e4, h4⟩ := hf (L := prpL) 2 _ 4 rfl (by kernel_rfl) o_prp
    have e4 : [c4, c5, c6, c7] = [.string a2.name, .int .i64 a2.v.ty, .int .i64 a2.v.n, .string a2.v.s] := e4
    injection e4 with e4 e5
    injection e5 with e5 e6
    injection e6 with e6 e7
    injection e7 with e7 _
    subst e4; subst e5; subst e6; subst e7
    obtain ⟨a3, e8, h8⟩ := hf (L := tieL) 3 _ 3 rfl (by kernel_rfl) o_tie
    have e8 : [c8, c9, c10] = [.string a3.bond, .int .i64 a3.src, .int .i64 a3.dst] := e8
    injection e8 with e8 e9
    injection e9 with e9 e10
    injection e10 with e10 _
    subst e8; subst e9; subst e10
    exact ⟨⟨a0, a1, a2, a3⟩, c3, rfl, ⟨k2, k1, k0, h4, h8⟩⟩
theorem o_oprs : Opens Tryz.prog (slL oprL) 30 := Opens.slice Tryz.underlying30 (by kernel_rfl) (by decide) o_opr
theorem opr_at {w : World} {A : Option Addr} {k n c : Nat} {l : List Opr} (h : Sl oprL w (.slice A n c) l) {d : Opr} (hk : l[k]? = some d) :
    ∃ b o vr, A = some ⟨b, o, none⟩ ∧ OprR w vr d ∧ ∀ j u, (oprCells d vr).toList[j]? = some u → w.cell? ⟨b, o + k * 11 + j, none⟩ = some u := by
  obtain ⟨b, o, hA, hall⟩ := h.all (len_pos hk)
  obtain ⟨cs, ⟨vr, rfl, hr⟩, hx⟩ := hall k d hk
  exact ⟨b, o, vr, hA, hr, fun j u hj => by have h := hx j u hj; rw [← Nat.add_assoc] at h; exact h⟩
end Go.Proofs.YtkaolglpmajeaaaGreat

/- Plain: a graph of which the nodes are gone one by one. -/
namespace Go.Proofs.YtkaolglpmajeaaaGreat

theorem nodsE_weak {p : Option Nod} {l : List Nod} (h : nodsE p l = 0) : nodsE none l = 0 := by
  cases l with
  | nil => rfl
  | cons n r =>
    obtain ⟨h1, h2, h3, _⟩ := nodsE_step h
    have e : nodsE none (n :: r) = if idB n.id = false then 1 else if nodE n = 0 then nodsE (some n) r else nodE n := rfl
    rw [e, if_neg (by simp [h1]), if_pos h2, h3]
theorem nodsE_drop : ∀ (k : Nat) {p : Option Nod} {l : List Nod}, nodsE p l = 0 → nodsE none (l.drop k) = 0
  | 0, _, _, h => nodsE_weak h
  | _ + 1, _, [], _ => rfl
  | k + 1, _, _ :: _, h => nodsE_drop k (nodsE_step h).2.2.1
theorem tiesE_filter (f : Tie → Bool) : ∀ {l : List Tie} {p q : Option Tie}, (∀ a, p = some a → q = some a ∨ ∃ b, q = some b ∧ tieO a b < 0) → (p = none → True) → tiesE q l = 0 → tiesE p (l.filter f) = 0
  | [], p, q, _, _, _ => by cases p <;> rfl
  | t :: r, p, q, hp, _, h => by
    obtain ⟨s1, s2, s3⟩ := tiesE_step h
    have hlt : ∀ a, p = some a → tieO a t < 0 := fun a ha => by
      rcases hp a ha with hq | ⟨b, hq, hab⟩
      · have := s3 a hq; unfold tieLt at this; exact of_decide_eq_true this
      · have := s3 b hq; unfold tieLt at this; exact tieO_trans hab (of_decide_eq_true this)
    rw [List.filter_cons]
    by_cases hf : f t = true
    · rw [if_pos hf]
      have e : tiesE p (t :: r.filter f) = if tieE t = 0 then (if (match p with | some q => decide (0 ≤ tieO q t) | none => false) then 7 else tiesE (some t) (r.filter f)) else tieE t := by cases p <;> rfl
      rw [e, if_pos s1]
      have ih := tiesE_filter f (l := r) (p := some t) (q := some t) (fun a ha => .inl ha) (fun _ => trivial) s2
      cases p with
      | none => simpa using ih
      | some a =>
        have h1 := hlt a rfl
        have h2 : decide (0 ≤ tieO a t) = false := decide_eq_false (by omega)
        show (if decide (0 ≤ tieO a t) = true then (7 : Int) else tiesE (some t) (r.filter f)) = 0
        rw [h2]; simpa using ih
    · rw [if_neg hf]
      exact tiesE_filter f (l := r) (p := p) (q := some t) (fun a ha => .inr ⟨t, rfl, hlt a ha⟩) (fun _ => trivial) s2
def cutG (g : Grf) (k : Nat) : Grf := ⟨g.nodes.drop k, g.ties.filter fun t => !((g.nodes.take k).any fun n => touch n.id t)⟩
theorem cut_zero (g : Grf) : cutG g 0 = g := by
  unfold cutG
  have : g.ties.filter (fun t => !((g.nodes.take 0).any fun n => touch n.id t)) = g.ties := List.filter_eq_self.2 (fun a _ => by simp)
  rw [this, List.drop_zero]
theorem cut_right {g : Grf} (h : grfE g = 0) (k : Nat) : grfE (cutG g k) = 0 := by
  obtain ⟨h1, h2⟩ := grf_parts h
  obtain ⟨l1, l2, _, _⟩ := grf_ok h
  have e1 : nodsE none (cutG g k).nodes = 0 := nodsE_drop k h1
  have e2 : tiesE none (cutG g k).ties = 0 := tiesE_filter _ (q := none) (fun a ha => by cases ha) (fun _ => trivial) h2
  unfold grfE
  have l3 : (cutG g k).nodes.length ≤ 60 := by unfold cutG; simp; omega
  have l4 : (cutG g k).ties.length ≤ 120 := Nat.le_trans (List.length_filter_le _ _) l2
  rw [if_neg (by omega), e1, if_pos rfl, e2]
theorem fpos_head {l : List Nod} {n : Nod} {r : List Nod} (h : l = n :: r) : fpos l n.id = 0 ∧ fhas l n.id = true := by
  subst h
  have h0 : nodC n.id n = 0 := by unfold nodC; exact cmpI_zero.2 rfl
  have h1 : fpos (n :: r) n.id = 0 := by
    unfold fpos lowI
    rw [List.findIdx_cons]
    simp [h0]
  refine ⟨h1, ?_⟩
  unfold fhas
  rw [h1]
  unfold eqAt
  simp [h0]
theorem cut_step {g : Grf} {k : Nat} {n : Nod} (hd : g.nodes[k]? = some n) : goneG (cutG g k) n.id = cutG g (k + 1) ∧ fhas (cutG g k).nodes n.id = true := by
  have hc : (cutG g k).nodes = n :: g.nodes.drop (k + 1) := drop_cons hd
  obtain ⟨h1, h2⟩ := fpos_head hc
  refine ⟨?_, h2⟩
  unfold goneG
  rw [h1, hc]
  unfold cutG
  simp only [List.take_zero, List.nil_append, List.drop_succ_cons, List.drop_zero, List.filter_filter]
  rw [take_snoc hd]
  congr 1
  apply List.filter_congr
  intro t _
  rw [List.any_append]
  simp only [List.any_cons, List.any_nil, Bool.or_false, Bool.not_or]
  exact Bool.and_comm _ _
theorem beq_swap (a b : Int) : (a == b) = (b == a) := by
  rcases Int.decEq a b with h | h
  · rw [beq_eq_false_iff_ne.2 h, beq_eq_false_iff_ne.2 (Ne.symm h)]
  · subst h; rfl
def looseN (g : Grf) : Nat := (g.ties.filter fun t => !(fhas g.nodes t.src) && !(fhas g.nodes t.dst)).length
theorem chain_lt2 {l : List Nod} (hc : chain nodLt l = true) : ∀ {i j : Nat} {a b : Nod}, i < j → l[i]? = some a → l[j]? = some b → a.id < b.id := by
  intro i j
  induction j with
  | zero => intro a b h; omega
  | succ j ih =>
    intro a b h ha hb
    have hj : j < l.length := by have := (List.getElem?_eq_some_iff.1 hb).1; omega
    have h1 := chain_iff.1 hc j l[j] b (List.getElem?_eq_getElem hj) hb
    simp only [nodLt, decide_eq_true_eq] at h1
    rcases Nat.lt_or_ge i j with h2 | h2
    · have := ih (b := l[j]) h2 ha (List.getElem?_eq_getElem hj); omega
    · obtain rfl : i = j := by omega
      have := ha.symm.trans (List.getElem?_eq_getElem hj)
      cases this
      exact h1
theorem fhas_any {l : List Nod} (hc : chain nodLt l = true) (id : Int) : fhas l id = l.any fun n => n.id == id := by
  cases hq : fhas l id with
  | true =>
    obtain ⟨n, hn⟩ := fhas_some' hq
    have h0 : nodC id n = 0 := by
      unfold fhas eqAt at hq
      rw [hn] at hq
      simpa using hq
    have := (cmpI_zero (a := n.id) (b := id)).1 h0
    exact (List.any_eq_true.2 ⟨n, List.mem_of_getElem? hn, by simp [this]⟩).symm
  | false =>
    symm
    rw [List.any_eq_false]
    intro n hn
    obtain ⟨i, hi⟩ := List.mem_iff_getElem?.1 hn
    simp only [beq_iff_eq]
    intro he
    have h0 : nodC id n = 0 := cmpI_zero.2 he
    rcases Nat.lt_trichotomy i (fpos l id) with h | h | h
    · have := low_lt (c := nodC id) h hi; omega
    · subst h
      unfold fhas eqAt at hq
      rw [hi] at hq
      simp [h0] at hq
    · have hlt : fpos l id < l.length := by have := (List.getElem?_eq_some_iff.1 hi).1; omega
      obtain ⟨m, hm⟩ : ∃ m, l[fpos l id]? = some m := ⟨_, List.getElem?_eq_getElem hlt⟩
      have h1 := low_ge (c := nodC id) hc (nodC_mono id) (Nat.le_refl _) hm
      have h2 : ¬ nodC id m = 0 := by
        unfold fhas eqAt at hq
        rw [hm] at hq
        simpa using hq
      have h3 := chain_lt2 hc h hm hi
      unfold nodC at h0 h1 h2
      have a1 := (cmpI_zero (a := n.id) (b := id)).1 h0
      have a2 := @cmpI_neg m.id id
      have a3 := @cmpI_zero m.id id
      have a4 : ¬ m.id < id := fun h => by have := a2.2 h; omega
      have a5 : ¬ m.id = id := fun h => h2 (a3.2 h)
      omega
theorem cut_all {g : Grf} (h : grfE g = 0) : (cutG g g.nodes.length).nodes = [] ∧ (cutG g g.nodes.length).ties.length = looseN g := by
  obtain ⟨_, _, hc, _⟩ := grf_ok h
  refine ⟨by unfold cutG; simp, ?_⟩
  unfold cutG looseN
  rw [List.take_length]
  congr 1
  apply List.filter_congr
  intro t _
  rw [fhas_any hc, fhas_any hc]
  unfold touch
  simp only [← Bool.not_or]
  congr 1
  induction g.nodes with
  | nil => rfl
  | cons n r ih =>
    simp only [List.any_cons, ih]
    have e1 : (t.src == n.id) = (n.id == t.src) := beq_swap _ _
    have e2 : (t.dst == n.id) = (n.id == t.dst) := beq_swap _ _
    rw [e1, e2]
    cases (n.id == t.src) <;> cases (n.id == t.dst) <;> simp
end Go.Proofs.YtkaolglpmajeaaaGreat

/- Plain: an op on a right graph, if it is no fault, makes a right graph. No condition. -/
namespace Go.Proofs.YtkaolglpmajeaaaGreat
open Go

theorem chain_pw {D : Type} {R : D → D → Bool} (tr : ∀ a b c, R a b = true → R b c = true → R a c = true) : ∀ {l : List D}, chain R l = true ↔ l.Pairwise fun a b => R a b = true
  | [] => by simp [chain]
  | [a] => by simp [chain]
  | a :: b :: r => by
    have ih := chain_pw tr (l := b :: r)
    rw [chain, Bool.and_eq_true, ih]
    constructor
    · rintro ⟨h1, h2⟩
      refine List.pairwise_cons.2 ⟨fun x hx => ?_, h2⟩
      rcases List.mem_cons.1 hx with rfl | hx
      · exact h1
      · exact tr a b x h1 ((List.pairwise_cons.1 h2).1 x hx)
    · intro h
      obtain ⟨h1, h2⟩ := List.pairwise_cons.1 h
      exact ⟨h1 b (by simp), h2⟩
theorem pw_insert {D : Type} {R : D → D → Prop} {l : List D} {i : Nat} {x : D} (h : l.Pairwise R) (h1 : ∀ d ∈ l.take i, R d x) (h2 : ∀ d ∈ l.drop i, R x d) : (l.take i ++ x :: l.drop i).Pairwise R := by
  rw [List.pairwise_append]
  refine ⟨h.sublist (List.take_sublist _ _), List.pairwise_cons.2 ⟨h2, h.sublist (List.drop_sublist _ _)⟩, fun a ha b hb => ?_⟩
  rcases List.mem_cons.1 hb with rfl | hb
  · exact h1 a ha
  · rw [← List.take_append_drop i l, List.pairwise_append] at h
    exact h.2.2 a ha b hb
theorem pw_delete {D : Type} {R : D → D → Prop} {l : List D} (h : l.Pairwise R) (i : Nat) : (l.take i ++ l.drop (i + 1)).Pairwise R := by
  rw [← List.eraseIdx_eq_take_drop_succ]
  exact h.sublist (List.eraseIdx_sublist _ _)
theorem mem_delete {D : Type} {l : List D} {i : Nat} {x : D} (h : x ∈ l.take i ++ l.drop (i + 1)) : x ∈ l := by
  rcases List.mem_append.1 h with h | h
  · exact List.mem_of_mem_take h
  · exact List.mem_of_mem_drop h
theorem len_delete {D : Type} (l : List D) (i : Nat) : (l.take i ++ l.drop (i + 1)).length ≤ l.length := by simp; omega
theorem mem_insert {D : Type} {l : List D} {i : Nat} {x y : D} (h : y ∈ l.take i ++ x :: l.drop i) : y = x ∨ y ∈ l := by
  rcases List.mem_append.1 h with h | h
  · exact .inr (List.mem_of_mem_take h)
  · rcases List.mem_cons.1 h with h | h
    · exact .inl h
    · exact .inr (List.mem_of_mem_drop h)
/-- What stands ahead of a place in a row, and behind it. -/
theorem low_parts {D : Type} {R : D → D → Bool} {c : D → Int} {l : List D} (hc : chain R l = true) (mono : ∀ a b, R a b = true → 0 ≤ c a → 0 ≤ c b) (hno : eqAt c l (lowI c l) = false)
    (hz : ∀ a b, R a b = true → c b = 0 → c a < 0) : (∀ d ∈ l.take (lowI c l), c d < 0) ∧ ∀ d ∈ l.drop (lowI c l), 0 < c d := by
  constructor
  · intro d hd
    obtain ⟨i, hi⟩ := List.mem_iff_getElem?.1 hd
    rw [List.getElem?_take] at hi
    split at hi
    · rename_i h; exact low_lt h hi
    · cases hi
  · intro d hd
    obtain ⟨i, hi⟩ := List.mem_iff_getElem?.1 hd
    rw [List.getElem?_drop] at hi
    have h0 := low_ge (c := c) hc mono (by omega) hi
    by_cases h1 : 0 < c d
    · exact h1
    · have hd0 : c d = 0 := by omega
      rcases Nat.eq_zero_or_pos i with rfl | hp
      · unfold eqAt at hno
        rw [Nat.add_zero] at hi
        rw [hi] at hno
        simp [hd0] at hno
      · have hil := (List.getElem?_eq_some_iff.1 hi).1
        have hm : l[lowI c l]? = some (l[lowI c l]'(by omega)) := List.getElem?_eq_getElem _
        have h2 := low_ge (c := c) hc mono (Nat.le_refl _) hm
        have h3 : 0 < c (l[lowI c l]'(by omega)) := by
          unfold eqAt at hno
          rw [hm] at hno
          have : ¬ c (l[lowI c l]'(by omega)) = 0 := by simpa using hno
          omega
        have key : ∀ (k : Nat) e, l[lowI c l + k]? = some e → 0 < c e := by
          intro k
          induction k with
          | zero => intro e he; rw [Nat.add_zero, hm] at he; injection he with he; subst he; exact h3
          | succ k ih =>
            intro e he
            have hl := (List.getElem?_eq_some_iff.1 he).1
            have hp' : l[lowI c l + k]? = some (l[lowI c l + k]'(by omega)) := List.getElem?_eq_getElem _
            have h4 := ih _ hp'
            have h5 := chain_iff.1 hc (lowI c l + k) _ e hp' (by rw [← he]; rfl)
            have h6 := mono _ _ h5 (by omega)
            by_cases h7 : c e = 0
            · have := hz _ _ h5 h7; omega
            · omega
        exact key i d hi
theorem cmpI_pos {a b : Int} : 0 < cmpI a b ↔ b < a := by unfold cmpI; split <;> (try split) <;> omega
theorem nodLt_tr : ∀ a b c, nodLt a b = true → nodLt b c = true → nodLt a c = true := by
  intro a b c h k
  unfold nodLt at *
  simp only [decide_eq_true_eq] at *
  omega
theorem tieLt_tr : ∀ a b c, tieLt a b = true → tieLt b c = true → tieLt a c = true := by
  intro a b c h k
  unfold tieLt at *
  simp only [decide_eq_true_eq] at *
  exact tieO_trans h k
theorem prpLt_iff {a b : Prp} : prpLt a b = true ↔ cmpS a.name b.name < 0 := by
  unfold prpLt; rw [ltS_cmp]; simp
theorem prpLt_tr : ∀ a b c, prpLt a b = true → prpLt b c = true → prpLt a c = true := by
  intro a b c h k
  rw [prpLt_iff] at *
  exact cmpS_trans h k
theorem tieO_pos {a b : Tie} (h : 0 < tieO a b) : tieO b a < 0 := by
  rw [tieO_neg]
  have h0 := @cmpS_zero a.bond b.bond
  have ha := cmpS_anti a.bond b.bond
  have h1 := @cmpI_pos a.src b.src
  have h2 := @cmpI_zero a.src b.src
  have h3 := @cmpI_pos a.dst b.dst
  unfold tieO orI at h
  by_cases e1 : cmpS a.bond b.bond = 0
  · rw [if_pos e1] at h
    unfold orI at h
    by_cases e2 : cmpI a.src b.src = 0
    · rw [if_pos e2] at h
      unfold orI orI at h
      by_cases e3 : cmpI a.dst b.dst = 0
      · rw [if_pos e3] at h; omega
      · rw [if_neg e3] at h
        exact .inr ⟨(h0.1 e1).symm, .inr ⟨(h2.1 e2).symm, h3.1 h⟩⟩
    · rw [if_neg e2] at h
      exact .inr ⟨(h0.1 e1).symm, .inl (h1.1 h)⟩
  · rw [if_neg e1] at h
    exact .inl (by omega)
/-! ### What makes a graph right -/
def clashN (p : Option Nod) (n : Nod) : Bool := match p with | some q => decide (n.id ≤ q.id) | none => false
def clashT (p : Option Tie) (t : Tie) : Bool := match p with | some q => decide (0 ≤ tieO q t) | none => false
theorem nodsE_mk : ∀ {l : List Nod} {p : Option Nod}, (∀ n ∈ l, idB n.id = true ∧ nodE n = 0) → chain nodLt l = true → (∀ a b, p = some a → l.head? = some b → nodLt a b = true) → nodsE p l = 0
  | [], p, _, _, _ => by cases p <;> rfl
  | n :: r, p, h, hc, hp => by
    obtain ⟨h1, h2⟩ := h n (by simp)
    have e : nodsE p (n :: r) = if idB n.id = false then 1 else if clashN p n then 7 else if nodE n = 0 then nodsE (some n) r else nodE n := by cases p <;> rfl
    have hno : clashN p n = false := by
      clear e
      cases p with
      | none => rfl
      | some q =>
        have := hp q n rfl rfl
        unfold nodLt at this
        have := of_decide_eq_true this
        exact decide_eq_false (by omega)
    rw [e, if_neg (by simp [h1]), hno, if_neg (by simp), if_pos h2]
    refine nodsE_mk (fun m hm => h m (by simp [hm])) ?_ (fun a b ha hb => ?_)
    · cases r with
      | nil => rfl
      | cons b r => simp only [chain, Bool.and_eq_true] at hc; exact hc.2
    · cases ha
      cases r with
      | nil => cases hb
      | cons b' r => simp at hb; subst hb; simp only [chain, Bool.and_eq_true] at hc; exact hc.1
theorem tiesE_mk : ∀ {l : List Tie} {p : Option Tie}, (∀ t ∈ l, tieE t = 0) → chain tieLt l = true → (∀ a b, p = some a → l.head? = some b → tieLt a b = true) → tiesE p l = 0
  | [], p, _, _, _ => by cases p <;> rfl
  | t :: r, p, h, hc, hp => by
    have h1 := h t (by simp)
    have e : tiesE p (t :: r) = if tieE t = 0 then (if clashT p t then 7 else tiesE (some t) r) else tieE t := by cases p <;> rfl
    have hno : clashT p t = false := by
      clear e
      cases p with
      | none => rfl
      | some q =>
        have := hp q t rfl rfl
        unfold tieLt at this
        have := of_decide_eq_true this
        exact decide_eq_false (by omega)
    rw [e, if_pos h1, hno, if_neg (by simp)]
    refine tiesE_mk (fun m hm => h m (by simp [hm])) ?_ (fun a b ha hb => ?_)
    · cases r with
      | nil => rfl
      | cons b r => simp only [chain, Bool.and_eq_true] at hc; exact hc.2
    · cases ha
      cases r with
      | nil => cases hb
      | cons b' r => simp at hb; subst hb; simp only [chain, Bool.and_eq_true] at hc; exact hc.1
theorem grf_mk {g : Grf} (h1 : g.nodes.length ≤ 60) (h2 : g.ties.length ≤ 120) (h3 : chain nodLt g.nodes = true) (h4 : ∀ n ∈ g.nodes, idB n.id = true ∧ nodE n = 0) (h5 : chain tieLt g.ties = true) (h6 : ∀ t ∈ g.ties, tieE t = 0) : grfE g = 0 := by
  unfold grfE
  rw [if_neg (by omega), nodsE_mk (p := none) h4 h3 (fun a b ha => by cases ha), if_pos rfl, tiesE_mk (p := none) h6 h5 (fun a b ha => by cases ha)]
theorem firstE_mk {D : Type} {f : D → Int} : ∀ {l : List D}, (∀ d ∈ l, f d = 0) → firstE f l = 0
  | [], _ => rfl
  | d :: r, h => by rw [firstE, if_pos (h d (by simp))]; exact firstE_mk fun x hx => h x (by simp [hx])
theorem rec_mk {r : List Prp} (h1 : r.length ≤ 8) (h2 : ∀ p ∈ r, prpE p = 0) (h3 : chain prpLt r = true) : recE r = 0 := by
  have h3 : chain (fun a b : Prp => ltS a.name b.name) r = true := h3
  unfold recE
  rw [if_neg (by omega), if_pos (firstE_mk h2), h3]; rfl
theorem nodE_put {n : Nod} {r : List Prp} (h : nodE n = 0) (hr : recE r = 0) : nodE ⟨n.id, n.kind, r⟩ = 0 := by
  unfold nodE at h ⊢
  by_cases h1 : idB n.id = false
  · rw [if_pos h1] at h; cases h
  · rw [if_neg h1] at h ⊢
    by_cases h2 : nameE n.kind = 0
    · rw [if_pos h2]; exact hr
    · rw [if_neg h2] at h; exact absurd h h2
/-! ### Records -/
theorem prp_hz (nm : ByteArray) : ∀ a b, prpLt a b = true → prpC nm b = 0 → prpC nm a < 0 := by
  intro a b h k
  rw [prpLt_iff] at h
  unfold prpC at *
  rw [← cmpS_zero.1 k]
  exact h
theorem set_right {r : List Prp} {p : Prp} (h : setE r p = 0) : recE (setR r p) = 0 := by
  have h0 := h
  unfold setE at h
  by_cases e1 : recE r = 0
  · rw [if_pos e1] at h
    by_cases e2 : prpE p = 0
    · rw [if_pos e2] at h
      obtain ⟨a1, a2, a3⟩ := rec_ok e1
      unfold setR
      rw [if_pos h0]
      unfold putP
      cases hh : rhas r p.name with
      | true =>
        rw [if_pos rfl]
        obtain ⟨q, hq⟩ := rhas_some hh
        have hqn : q.name = p.name := by
          unfold rhas eqAt at hh
          rw [hq] at hh
          have : prpC p.name q = 0 := by simpa using hh
          exact cmpS_zero.1 this
        refine rec_mk (by simpa using a1) (fun x hx => ?_) ?_
        · rcases List.mem_or_eq_of_mem_set hx with hx | rfl
          · exact a2 x hx
          · exact e2
        · rw [chain_iff]
          intro i a b ha hb
          have key : ∀ (j : Nat) (c : Prp), (r.set (rpos r p.name) p)[j]? = some c → ∃ c', r[j]? = some c' ∧ c'.name = c.name := by
            intro j c hc
            rw [List.getElem?_set] at hc
            split at hc
            · rename_i hj
              subst hj
              split at hc
              · injection hc with hc; subst hc; exact ⟨q, hq, hqn⟩
              · cases hc
            · exact ⟨c, hc, rfl⟩
          obtain ⟨a', ha', na⟩ := key i a ha
          obtain ⟨b', hb', nb⟩ := key (i + 1) b hb
          have := chain_iff.1 a3 i a' b' ha' hb'
          rw [prpLt_iff] at this ⊢
          rw [← na, ← nb]; exact this
      | false =>
        rw [hh] at h
        simp only [Bool.false_eq_true, if_false] at h
        have hl : ¬ 8 ≤ r.length := fun hl => by rw [if_pos hl] at h; cases h
        rw [if_neg (by simp)]
        obtain ⟨b1, b2⟩ := low_parts (c := prpC p.name) a3 (prpC_mono p.name) hh (prp_hz p.name)
        refine rec_mk (by simp; have := lowI_le (prpC p.name) r; unfold rpos; omega) (fun x hx => ?_) ((chain_pw prpLt_tr).2 (pw_insert ((chain_pw prpLt_tr).1 a3) (fun d hd => ?_) (fun d hd => ?_)))
        · rcases mem_insert hx with rfl | hx
          · exact e2
          · exact a2 x hx
        · rw [prpLt_iff]; exact b1 d hd
        · rw [prpLt_iff, cmpS_anti]; have := b2 d hd; unfold prpC at this; omega
    · rw [if_neg e2] at h; exact absurd h e2
  · rw [if_neg e1] at h; exact absurd h e1
theorem unset_right {r : List Prp} {nm : ByteArray} (h : unsetE r nm = 0) : recE (unsetR r nm) = 0 := by
  have h0 := h
  unfold unsetE at h
  by_cases e1 : recE r = 0
  · obtain ⟨a1, a2, a3⟩ := rec_ok e1
    unfold unsetR
    rw [if_pos h0]
    exact rec_mk (Nat.le_trans (len_delete _ _) a1) (fun x hx => a2 x (mem_delete hx)) ((chain_pw prpLt_tr).2 (pw_delete ((chain_pw prpLt_tr).1 a3) _))
  · rw [if_neg e1] at h; exact absurd h e1
theorem put_right {g : Grf} (h : grfE g = 0) {id : Int} {r : List Prp} (hh : fhas g.nodes id = true) (hr : recE r = 0) : grfE ⟨putRec g.nodes (fpos g.nodes id) r, g.ties⟩ = 0 := by
  obtain ⟨h1, h2, h3, h4⟩ := grf_ok h
  obtain ⟨h5, h6⟩ := grf_ties h
  obtain ⟨n, hn⟩ := fhas_some' hh
  unfold putRec
  rw [hn]
  refine grf_mk (by simpa using h1) h2 ?_ (fun m hm => ?_) h5 h6
  · rw [chain_iff]
    intro i a b ha hb
    have key : ∀ (j : Nat) (c : Nod), (g.nodes.set (fpos g.nodes id) ⟨n.id, n.kind, r⟩)[j]? = some c → ∃ c', g.nodes[j]? = some c' ∧ c'.id = c.id := by
      intro j c hc
      rw [List.getElem?_set] at hc
      split at hc
      · rename_i hj
        subst hj
        split at hc
        · injection hc with hc; subst hc; exact ⟨n, hn, rfl⟩
        · cases hc
      · exact ⟨c, hc, rfl⟩
    obtain ⟨a', ha', na⟩ := key i a ha
    obtain ⟨b', hb', nb⟩ := key (i + 1) b hb
    have := chain_iff.1 h3 i a' b' ha' hb'
    unfold nodLt at this ⊢
    rw [← na, ← nb]; exact this
  · rcases List.mem_or_eq_of_mem_set hm with hm | rfl
    · exact h4 m hm
    · obtain ⟨k1, k2⟩ := h4 n (List.mem_of_getElem? hn)
      exact ⟨k1, nodE_put k2 hr⟩
theorem op_right {g : Grf} {o : Opr} (h : grfE g = 0) (ho : opE g o = 0) : grfE (opG g o) = 0 := by
  obtain ⟨h1, h2, h3, h4⟩ := grf_ok h
  obtain ⟨h5, h6⟩ := grf_ties h
  unfold opE at ho
  unfold opG
  by_cases w1 : o.what = 1
  · rw [if_pos w1] at ho ⊢
    unfold bornE at ho
    by_cases e1 : nodE o.node = 0
    · rw [if_pos e1] at ho
      cases hh : fhas g.nodes o.node.id with
      | true => rw [hh] at ho; simp at ho
      | false =>
        rw [hh] at ho
        simp only [Bool.false_eq_true, if_false] at ho
        have hl : ¬ 60 ≤ g.nodes.length := fun hl => by rw [if_pos hl] at ho; cases ho
        obtain ⟨b1, b2⟩ := low_parts (c := nodC o.node.id) h3 (nodC_mono o.node.id) hh (fun a b hab hb => by
          unfold nodLt at hab; unfold nodC at *
          have := of_decide_eq_true hab
          exact cmpI_neg.2 (by rw [← cmpI_zero.1 hb]; exact this))
        have hid : idB o.node.id = true := by
          unfold nodE at e1
          cases hb : idB o.node.id with
          | true => rfl
          | false => rw [hb] at e1; simp at e1
        unfold bornG
        refine grf_mk (by simp; have := lowI_le (nodC o.node.id) g.nodes; unfold fpos; omega) h2 ((chain_pw nodLt_tr).2 (pw_insert ((chain_pw nodLt_tr).1 h3) (fun d hd => ?_) (fun d hd => ?_))) (fun m hm => ?_) h5 h6
        · unfold nodLt; exact decide_eq_true (cmpI_neg.1 (b1 d hd))
        · unfold nodLt; exact decide_eq_true (cmpI_pos.1 (b2 d hd))
        · rcases mem_insert hm with rfl | hm
          · exact ⟨hid, e1⟩
          · exact h4 m hm
    · rw [if_neg e1] at ho; exact absurd ho e1
  rw [if_neg w1] at ho ⊢
  by_cases w2 : o.what = 2
  · rw [if_pos w2]
    unfold goneG
    exact grf_mk (Nat.le_trans (len_delete _ _) h1) (Nat.le_trans (List.length_filter_le _ _) h2) ((chain_pw nodLt_tr).2 (pw_delete ((chain_pw nodLt_tr).1 h3) _)) (fun m hm => h4 m (mem_delete hm))
      ((chain_pw tieLt_tr).2 (((chain_pw tieLt_tr).1 h5).filter _)) (fun t ht => h6 t (List.mem_filter.1 ht).1)
  rw [if_neg w2] at ho ⊢
  by_cases w3 : o.what = 3
  · rw [if_pos w3] at ho ⊢
    cases hh : fhas g.nodes o.node.id with
    | false => rw [hh] at ho; simp at ho
    | true =>
      rw [hh, if_pos rfl] at ho
      exact put_right h hh (set_right ho)
  rw [if_neg w3] at ho ⊢
  by_cases w4 : o.what = 4
  · rw [if_pos w4] at ho ⊢
    cases hh : fhas g.nodes o.node.id with
    | false => rw [hh] at ho; simp at ho
    | true =>
      rw [hh, if_pos rfl] at ho
      exact put_right h hh (unset_right ho)
  rw [if_neg w4] at ho ⊢
  by_cases w5 : o.what = 5
  · rw [if_pos w5] at ho ⊢
    by_cases e1 : tieE o.tie = 0
    · rw [if_pos e1] at ho
      cases hh : thas g.ties o.tie with
      | true => rw [hh] at ho; simp at ho
      | false =>
        rw [hh] at ho
        simp only [Bool.false_eq_true, if_false] at ho
        have hl : ¬ 120 ≤ g.ties.length := fun hl => by rw [if_pos hl] at ho; cases ho
        obtain ⟨b1, b2⟩ := low_parts (c := tieC o.tie) h5 (tieC_mono o.tie) hh (fun a b hab hb => by
          unfold tieLt at hab; unfold tieC at *
          rw [← tieO_zero.1 hb]; exact of_decide_eq_true hab)
        refine grf_mk h1 (by simp; have := lowI_le (tieC o.tie) g.ties; unfold tpos; omega) h3 h4 ((chain_pw tieLt_tr).2 (pw_insert ((chain_pw tieLt_tr).1 h5) (fun d hd => ?_) (fun d hd => ?_))) (fun t ht => ?_)
        · unfold tieLt; exact decide_eq_true (b1 d hd)
        · unfold tieLt; exact decide_eq_true (tieO_pos (b2 d hd))
        · rcases mem_insert ht with rfl | ht
          · exact e1
          · exact h6 t ht
    · rw [if_neg e1] at ho; exact absurd ho e1
  rw [if_neg w5] at ho ⊢
  by_cases w6 : o.what = 6
  · rw [if_pos w6]
    exact grf_mk h1 (Nat.le_trans (len_delete _ _) h2) h3 h4 ((chain_pw tieLt_tr).2 (pw_delete ((chain_pw tieLt_tr).1 h5) _)) (fun t ht => h6 t (mem_delete ht))
  · rw [if_neg w6] at ho; cases ho
/-- Ops one behind the other: the graph, the first that is wrong, and how. -/
def allG (g : Grf) : List Opr → Grf
  | [] => g
  | o :: r => if opE g o = 0 then allG (opG g o) r else ⟨[], []⟩
def allE (g : Grf) : List Opr → Int
  | [] => 0
  | o :: r => if opE g o = 0 then allE (opG g o) r else opE g o
theorem all_right : ∀ {l : List Opr} {g : Grf}, grfE g = 0 → allE g l = 0 → grfE (allG g l) = 0
  | [], _, h, _ => h
  | o :: r, g, h, he => by
    unfold allE at he
    unfold allG
    by_cases h0 : opE g o = 0
    · rw [if_pos h0] at he ⊢
      exact all_right (op_right h h0) he
    · rw [if_neg h0] at he; exact absurd he h0
end Go.Proofs.YtkaolglpmajeaaaGreat

/- Contract: a checker tells a fault. No condition. -/
namespace Go.Proofs.YtkaolglpmajeaaaGreat
open Go Go.RowKit

structure Flt where
  what : Int
  node : Int
  name : ByteArray
def Flt.enc (d : Flt) : List Value := [.int .i64 d.what, .int .i64 d.node, .string d.name]
def Flt.ok (d : Flt) : Prop := I64 d.what ∧ I64 d.node ∧ Sm d.name
theorem Flt.enc_len (d : Flt) : d.enc.length = 3 := rfl
def fltL : Lay Flt := flatL 3 Flt.ok Flt.enc Flt.enc_len
theorem flt_info : (Tryz.prog.info? 127).map (fun i => (i.zero, i.size, i.bytes)) = some (some (.agg #[.int .i64 0, .int .i64 0, .string .empty]), 3, 32) := by kernel_rfl
theorem Own.is_cells {w : World} {B : Nat} {e : TypeId} {sz n k : Nat} {v : Value} {xs : List Value} (ho : Own w B e sz v n xs) (h : v.ownBlock = some k) : ∃ c fr, w.heap[k]? = some (.cells c e fr) := by
  rcases ho.2 with ⟨rfl, _⟩ | ⟨g, o, cap, cur, rfl, _, hg2, _⟩
  · simp [Value.ownBlock] at h
  · simp [Value.ownBlock] at h
    subst h
    exact ⟨_, _, hg2⟩
/-- A checker: what it asks of, its map, and what it has told. -/
structure Ck (B : Nat) (w : World) (bc : Nat) (vk vb vn vt mv out : Value) (fs : List Flt) : Prop where
  q : w.heap[bc]? = some (.cells #[vk, vb, vn, vt, out, mv] 92 (0, 0))
  l : B ≤ bc
  o : Own w B 127 3 out fs.length (fs.flatMap Flt.enc)
  k : ∀ x ∈ fs, x.ok
theorem Ck.below {B : Nat} {w w' : World} {bc : Nat} {vk vb vn vt mv out : Value} {fs : List Flt} (h : Ck B w bc vk vb vn vt mv out fs) (hb : Below w.heap.size w w') : Ck B w' bc vk vb vn vt mv out fs :=
  ⟨(hb.block _ (Array.getElem?_eq_some_iff.1 h.q).1).trans h.q, h.l, h.o.below hb, h.k⟩
/-- What has come of a checker that told more: all else stays. -/
structure Told1 (B : Nat) (w w' : World) (bc : Nat) (vk vb vn vt mv : Value) (fs : List Flt) : Prop where
  c : ∃ out, Ck B w' bc vk vb vn vt mv out fs
  b : Below B w w'
  s : ∀ T, 127 ≠ T → 92 ≠ T → Same T w w'
  m : ∀ (k : Nat) m c, w.heap[k]? = some (.map m c) → w'.heap[k]? = some (.map m c)
  z : w.heap.size ≤ w'.heap.size
theorem Told1.trans {B : Nat} {w w1 w2 : World} {bc : Nat} {vk vb vn vt mv : Value} {fs gs : List Flt} (h : Told1 B w w1 bc vk vb vn vt mv fs) (k : Told1 B w1 w2 bc vk vb vn vt mv gs) : Told1 B w w2 bc vk vb vn vt mv gs :=
  ⟨k.c, h.b.trans k.b, fun T h1 h2 => (h.s T h1 h2).trans (k.s T h1 h2), fun i m c hm => k.m i m c (h.m i m c hm), Nat.le_trans h.z k.z⟩
theorem Told1.first {B : Nat} {w w1 w2 : World} {bc : Nat} {vk vb vn vt mv : Value} {gs : List Flt} (hb : Below w.heap.size w w1) (hB : B ≤ w.heap.size) (k : Told1 B w1 w2 bc vk vb vn vt mv gs) : Told1 B w w2 bc vk vb vn vt mv gs :=
  ⟨k.c, (hb.mono hB).trans k.b, fun T h1 h2 => (Same.below hb).trans (k.s T h1 h2), fun i m c hm => k.m i m c ((hb.block _ (Array.getElem?_eq_some_iff.1 hm).1).trans hm), Nat.le_trans hb.size k.z⟩
theorem Told1.last {B : Nat} {w w1 w2 : World} {bc : Nat} {vk vb vn vt mv : Value} {gs : List Flt} (k : Told1 B w w1 bc vk vb vn vt mv gs) (hB : B ≤ w1.heap.size) (hb : Below w1.heap.size w1 w2) : Told1 B w w2 bc vk vb vn vt mv gs := by
  obtain ⟨out, hc⟩ := k.c
  exact ⟨⟨out, hc.below hb⟩, k.b.trans (hb.mono hB), fun T h1 h2 => (k.s T h1 h2).trans (Same.below hb), fun i m c hm => (hb.block _ (Array.getElem?_eq_some_iff.1 (k.m i m c hm)).1).trans (k.m i m c hm), Nat.le_trans k.z hb.size⟩
set_option maxRecDepth 100000 in
set_option maxHeartbeats 4000000 in
theorem tell_any (B bc : Nat) (vk vb vn vt mv out : Value) (fs : List Flt) (d : Flt) (w : World) (hB : B ≤ w.heap.size) (hC : Ck B w bc vk vb vn vt mv out fs) (hd : d.ok) (hl : fs.length ≤ 100000) :
    Calls Tryz.prog 35 #[.pointer (some ⟨bc, 0, none⟩), .int .i64 d.what, .int .i64 d.node, .string d.name] w fun e w' => e = .returned (.tuple #[]) ∧ Told1 B w w' bc vk vb vn vt mv (fs ++ [d]) := by
  obtain ⟨A, c, rfl, _, _⟩ := hC.o.form
  obtain ⟨i0, ei, ez, ez1, ez2⟩ := info_parts flt_info
  have x4 := block_cell hC.q 4
  have f4 := block_free hC.q 4
  have HC := Lib.hid hC
  have HD := Lib.hid hd
  have HN : Hid (∀ j u, d.enc[j]? = some u → (w.alloc (.cells #[.int .i64 d.what, .int .i64 d.node, .string d.name] 127)).cell? ⟨w.heap.size, j, none⟩ = some u) := fun j u hj => by
    rw [World.cell?_alloc_at _ _ _ _ rfl]; simpa [Flt.enc] using hj
  clear hC hd
  have HO : Hid (Own (w.alloc (.cells #[.int .i64 d.what, .int .i64 d.node, .string d.name] 127)) B 127 3 (.slice A fs.length c) fs.length (fs.flatMap Flt.enc)) := HC.out.o.alloc _
  have HSB : Hid (B ≤ (w.alloc (.cells #[.int .i64 d.what, .int .i64 d.node, .string d.name] 127)).heap.size) := by unfold Hid; simp; omega
  have HQ : Hid ((w.alloc (.cells #[.int .i64 d.what, .int .i64 d.node, .string d.name] 127)).heap[bc]? = some (.cells #[vk, vb, vn, vt, .slice A fs.length c, mv] 92 (0, 0))) := by
    unfold Hid; rw [Below.heap_alloc _ _ _ (Array.getElem?_eq_some_iff.1 HC.out.q).1]; exact HC.out.q
  go_enter Tryz.func35, Tryz.ntmps35
  go_wp2_with (at_builtin; refine wpList_append_q _ rfl (.tmp 12) (.tmp 17) _ rfl B 127 i0 (.agg #[.int .i64 0, .int .i64 0, .string .empty]) 3 32 Tryz.underlying53 ei ez ez1 ez2 rfl (by decide) (.slice A fs.length c) fs.length (fs.flatMap Flt.enc) rfl HO.out (some ⟨w.heap.size, 0, none⟩) 1 1 d.enc rfl rfl (fun _ => ⟨_, rfl, fun j u hj => by rw [addr_add, Nat.zero_add]; exact HN.out j u hj⟩) (fun u hu => by simp [Flt.enc] at hu; rcases hu with rfl | rfl | rfl <;> rfl) (by unfold maxLen; omega) (by omega) HSB.out ?_; intro v7 w7 hown7 hg7 hat7; obtain ⟨A7, c7, rfl, _, _⟩ := hown7.form; have hq7 := grown_block hg7 HQ.out (HO.out.ne_block HQ.out (by decide)); have e0 := block_cell hq7 4; have e1 := block_free hq7 4)
  go_end0
  refine ⟨rfl, ⟨⟨.slice A7 (fs.length + 1) c7, ?_, HC.out.l, ?_, fun x hx => ?_⟩, ?_, fun T h1 h2 => ?_, fun k m cl hm => ?_, ?_⟩⟩
  · exact setCell_block hq7 4 _
  · have h := hown7.same (Same.setCell (T := 127) (p := ⟨bc, 4, none⟩) hq7 (by decide) (.slice A7 (fs.length + 1) c7))
    rw [flat_snoc] at h
    simpa using h
  · rcases List.mem_append.1 hx with h | h
    · exact HC.out.k x h
    · simp at h; subst h; exact HD.out
  · exact (((Below.refl B w).alloc hB _).grown hg7 HSB.out (fun k e => (HO.out.lt k e).1)).setCell (p := ⟨bc, 4, none⟩) HC.out.l _
  · exact ((Same.alloc w _).trans (Same.grown HO.out h1 hg7)).trans (Same.setCell (p := ⟨bc, 4, none⟩) hq7 h2 _)
  · have hk := (Array.getElem?_eq_some_iff.1 hm).1
    have h1 : (w.alloc (.cells #[.int .i64 d.what, .int .i64 d.node, .string d.name] 127)).heap[k]? = some (.map m cl) := by rw [Below.heap_alloc _ _ _ hk]; exact hm
    have h2 := grown_block hg7 h1 (fun e => by
      obtain ⟨c, fr, h⟩ := HO.out.is_cells e.symm
      rw [h1] at h; cases h)
    rw [Below.heap_setCell _ _ _ _ (by
      intro e
      have e : k = bc := e
      rw [e, hq7] at h2; cases h2)]
    exact h2
  · have h1 := hg7.size
    simp [World.setCell] at h1 ⊢
    omega
end Go.Proofs.YtkaolglpmajeaaaGreat
