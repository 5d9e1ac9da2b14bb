/- Contracts: delta.do, delta.Do. -/
import Derived.Test.YtdfeloeainabjaaDelGone
import Derived.Test.YtdfeloeainabjaaDelTie
import Derived.Test.YtdfeloeainabjaaDelBorn
import Derived.Test.YtdfeloeainabjaaDelChg
import Derived.Test.YtdfeloeainabjaaRecU
namespace Go.Proofs.Ytdfeloeainabjaa
open Go Go.RowKit

/-- An op as an argument. -/
def oprCells (o : Opr) (vr : Value) : Array Value := #[.int .i64 o.what, .int .i64 o.node.id, .string o.node.kind, vr, .string o.prop.name, .int .i64 o.prop.v.ty, .int .i64 o.prop.v.n, .string o.prop.v.s, .string o.tie.bond, .int .i64 o.tie.src, .int .i64 o.tie.dst]
structure OprR (w : World) (vr : Value) (o : Opr) : Prop where
  r : Sl prpL w vr o.node.props
  k : Sm o.node.kind
  i : I64 o.node.id
  p : o.prop.ok
  t : o.tie.ok
theorem OprR.below {w w' : World} {vr : Value} {o : Opr} (h : OprR w vr o) (hb : Below w.heap.size w w') : OprR w' vr o := ⟨h.r.below hb, h.k, h.i, h.p, h.t⟩
theorem do1_any (p : Prp) (r : List Prp) (v : Value) (b : Nat) (w : World) (hv : Sl prpL w v r) (hp : p.ok) (c0 : w.cell? ⟨b, 4, none⟩ = some (.string p.name)) (c1 : w.cell? ⟨b, 5, none⟩ = some (.int .i64 p.v.ty)) (c2 : w.cell? ⟨b, 6, none⟩ = some (.int .i64 p.v.n)) (c3 : w.cell? ⟨b, 7, none⟩ = some (.string p.v.s)) :
    Calls Try.prog 82 #[v, .pointer (some ⟨b, 0, none⟩)] w (RetO (setR r p) (setE r p) w) := by
  have h1 := set_own r p v w hv hp
  obtain ⟨z, hz⟩ : ∃ z, z = errV (setE r p) := ⟨_, rfl⟩
  have HZ := Lib.hid hz
  obtain ⟨A, c, rfl, _, _⟩ := hv.form
  clear hv
  go_enter Try.func82, Try.ntmps82
  go_wp2_with fail
  refine h1.mono ?_
  clear h1
  rintro e w1 ⟨u, he, hu, hb⟩
  rw [← HZ.out] at he
  subst he
  obtain ⟨A2, c2, rfl, _, _⟩ := hu.1.form
  have HU := Lib.hid hu
  clear hz hu
  go_wp2_with fail
  go_ret2
  exact ⟨_, by rw [HZ.out]; rfl, HU.out, hb⟩
theorem do2_any (nm : ByteArray) (r : List Prp) (v : Value) (b : Nat) (w : World) (hv : Sl prpL w v r) (c0 : w.cell? ⟨b, 4, none⟩ = some (.string nm)) :
    Calls Try.prog 83 #[v, .pointer (some ⟨b, 0, none⟩)] w (RetO (unsetR r nm) (unsetE r nm) w) := by
  have h1 := unset_own r nm v w hv
  obtain ⟨z, hz⟩ : ∃ z, z = errV (unsetE r nm) := ⟨_, rfl⟩
  have HZ := Lib.hid hz
  obtain ⟨A, c, rfl, _, _⟩ := hv.form
  clear hv
  go_enter Try.func83, Try.ntmps83
  go_wp2_with fail
  refine h1.mono ?_
  clear h1
  rintro e w1 ⟨u, he, hu, hb⟩
  rw [← HZ.out] at he
  subst he
  obtain ⟨A2, c2, rfl, _, _⟩ := hu.1.form
  have HU := Lib.hid hu
  clear hz hu
  go_wp2_with fail
  go_ret2
  exact ⟨_, by rw [HZ.out]; rfl, HU.out, hb⟩
set_option maxRecDepth 100000 in
set_option maxHeartbeats 16000000 in
theorem do_any (g : Grf) (o : Opr) (vn vt vr : Value) (xs : List Value) (B : Nat) (w : World) (hB : B ≤ w.heap.size) (hG : OwnG w B vn vt g xs) (hO : OprR w vr o) (hcn : chain nodLt g.nodes = true) (hct : chain tieLt g.ties = true) (hn : g.nodes.length ≤ 1000) (ht : g.ties.length ≤ 1000) :
    Calls Try.prog 44 #[.agg #[vn, vt], .agg (oprCells o vr)] w (RetOG B vn vt (opG g o) (opE g o) w) := by
  obtain ⟨An, cn, rfl, _, _⟩ := hG.n.form
  obtain ⟨At, ct, rfl, _, _⟩ := hG.t.form
  obtain ⟨Ar, cr, rfl, _, _⟩ := hO.r.form
  obtain ⟨what, node, prop, tie⟩ := o
  have hO' : OprR w (.slice Ar node.props.length cr) ⟨what, node, prop, tie⟩ := hO
  clear hO
  show Calls Try.prog 44 #[.agg #[.slice An g.nodes.length cn, .slice At g.ties.length ct], .agg #[.int .i64 what, .int .i64 node.id, .string node.kind, .slice Ar node.props.length cr, .string prop.name, .int .i64 prop.v.ty, .int .i64 prop.v.n, .string prop.v.s, .string tie.bond, .int .i64 tie.src, .int .i64 tie.dst]] w _
  obtain ⟨W0, hW0⟩ : ∃ W0, W0 = (((w.alloc (.cells #[.slice An g.nodes.length cn, .slice At g.ties.length ct] 29)).alloc (.cells #[.int .i64 what, .int .i64 node.id, .string node.kind, .slice Ar node.props.length cr, .string prop.name, .int .i64 prop.v.ty, .int .i64 prop.v.n, .string prop.v.s, .string tie.bond, .int .i64 tie.src, .int .i64 tie.dst] 69)).alloc (.cells #[.slice none 0 0, .slice none 0 0] 29)) := ⟨_, rfl⟩
  have hb0 : Below w.heap.size w W0 := by rw [hW0]; exact (((Below.refl _ _).alloc (Nat.le_refl _) _).alloc (by simp) _).alloc (by simp; omega) _
  have g0 : W0.heap[w.heap.size]? = some (.cells #[.slice An g.nodes.length cn, .slice At g.ties.length ct] 29 (0, 0)) := by
    rw [hW0, Below.heap_alloc _ _ _ (by simp; omega), Below.heap_alloc _ _ _ (by simp)]; exact heap_alloc_new _ _
  have g1 : W0.heap[w.heap.size + 1]? = some (.cells #[.int .i64 what, .int .i64 node.id, .string node.kind, .slice Ar node.props.length cr, .string prop.name, .int .i64 prop.v.ty, .int .i64 prop.v.n, .string prop.v.s, .string tie.bond, .int .i64 tie.src, .int .i64 tie.dst] 69 (0, 0)) := by
    rw [hW0, Below.heap_alloc _ _ _ (by simp)]
    have := heap_alloc_new (w.alloc (.cells #[.slice An g.nodes.length cn, .slice At g.ties.length ct] 29)) (.cells #[.int .i64 what, .int .i64 node.id, .string node.kind, .slice Ar node.props.length cr, .string prop.name, .int .i64 prop.v.ty, .int .i64 prop.v.n, .string prop.v.s, .string tie.bond, .int .i64 tie.src, .int .i64 tie.dst] 69); simpa using this
  have g2 : W0.heap[w.heap.size + 1 + 1]? = some (.cells #[.slice none 0 0, .slice none 0 0] 29 (0, 0)) := by
    have := heap_alloc_new ((w.alloc (.cells #[.slice An g.nodes.length cn, .slice At g.ties.length ct] 29)).alloc (.cells #[.int .i64 what, .int .i64 node.id, .string node.kind, .slice Ar node.props.length cr, .string prop.name, .int .i64 prop.v.ty, .int .i64 prop.v.n, .string prop.v.s, .string tie.bond, .int .i64 tie.src, .int .i64 tie.dst] 69)) (.cells #[.slice none 0 0, .slice none 0 0] 29); rw [hW0]; simpa using this
  have hsz : W0.heap.size = w.heap.size + 3 := by rw [hW0]; simp
  have hW0' := hW0.symm
  have HG := Lib.hid hG
  have HG0 := Lib.hid (hG.below hb0)
  have HO0 := Lib.hid (hO'.below hb0)
  have M2 := Lib.hid g2
  have x0 := block_cell g0 0
  have x1 := block_cell g0 1
  have y0 := block_cell g1 0
  have y1 := block_cell g1 1
  have y2 := block_cell g1 2
  have y3 := block_cell g1 3
  have y4 := block_cell g1 4
  have y5 := block_cell g1 5
  have y6 := block_cell g1 6
  have y7 := block_cell g1 7
  have y8 := block_cell g1 8
  have y9 := block_cell g1 9
  have y10 := block_cell g1 10
  clear hG hO' g0 g1 g2 hW0
  by_cases h1 : what = 1
  · subst h1
    have HE : Hid (opE g ⟨1, node, prop, tie⟩ = bornE g node ∧ opG g ⟨1, node, prop, tie⟩ = bornG g node) := ⟨rfl, rfl⟩
    have hcall := born_any g node _ _ _ xs B W0 (by omega) HG0.out hcn hn HO0.out.r HO0.out.k HO0.out.i
    go_enter Try.func44, Try.ntmps44
    go_wp2_with fail
    refine hcall.mono ?_
    clear hcall
    obtain ⟨z, hz⟩ : ∃ z, z = errV (bornE g node) := ⟨_, rfl⟩
    have HZ := Lib.hid hz
    clear hz
    rintro e w1 ⟨un, ut, he, hown, ⟨A1, n1, c1, A2, n2, c2, rfl, rfl⟩, hB1, hK1⟩
    rw [← HZ.out] at he
    subst he
    have hs1 := hK1.s
    have n2' := (hK1.k (w.heap.size + 1 + 1) (by omega) (fun e => by have := (HG.out.n.lt _ e.symm).2; omega) (fun e => by have := (HG.out.t.lt _ e.symm).2; omega)).trans M2.out
    have a5 := block_free n2' 0
    have a6 := block_free n2' 1
    have a7 := block_cell n2' 0
    have a8 := block_cell n2' 1
    have p3 := setCell_block n2' 0 (.slice A1 n1 c1)
    have p4 := setCell_block p3 1 (.slice A2 n2 c2)
    have HP4 := Lib.hid p4
    have HS : Hid (∀ T, 29 ≠ T → Same T w1 ((w1.setCell ⟨w.heap.size + 1 + 1, 0, none⟩ (.slice A1 n1 c1)).setCell ⟨w.heap.size + 1 + 1, 1, none⟩ (.slice A2 n2 c2))) := fun T hT =>
      (Same.setCell (p := ⟨w.heap.size + 1 + 1, 0, none⟩) n2' hT _).trans (Same.setCell (p := ⟨w.heap.size + 1 + 1, 1, none⟩) p3 hT _)
    have HOW := Lib.hid hown
    have HK1 := Lib.hid hK1
    clear n2' p3 p4 hown hK1
    go_wp2_with fail
    have k2 := block_cell HP4.out 0
    have k3 := block_cell HP4.out 1
    have hk1 : Keep2 w w1 (.slice An g.nodes.length cn) (.slice At g.ties.length ct) := ⟨by omega, fun k hk h1 h2 => (HK1.out.k k (by omega) h1 h2).trans (hb0.block k hk)⟩
    exact bodyPost_ret (v := .tuple #[.agg #[.slice A1 n1 c1, .slice A2 n2 c2], z]) (by simp [results, Try.results44, go_sem, k2, k3]) rfl
      ⟨.slice A1 n1 c1, .slice A2 n2 c2, by rw [HZ.out, HE.out.1], (fun h => by
        obtain ⟨ys, hy⟩ := HOW.out (by rw [← HE.out.1]; exact h)
        rw [HE.out.2]
        exact ⟨ys, hy.same (HS.out _ (by decide)) (HS.out _ (by decide)) (HS.out _ (by decide))⟩), ⟨_, _, _, _, _, _, rfl, rfl⟩,
        (((Below.mono hb0 hB).trans hB1).setCell (p := ⟨w.heap.size + 1 + 1, 0, none⟩) (by show B ≤ w.heap.size + 1 + 1; omega) _).setCell (p := ⟨w.heap.size + 1 + 1, 1, none⟩) (by show B ≤ w.heap.size + 1 + 1; omega) _,
        (hk1.box (p := ⟨w.heap.size + 1 + 1, 0, none⟩) (by show w.heap.size ≤ w.heap.size + 1 + 1; omega) _).box (p := ⟨w.heap.size + 1 + 1, 1, none⟩) (by show w.heap.size ≤ w.heap.size + 1 + 1; omega) _⟩
  by_cases h2 : what = 2
  · subst h2
    have HE : Hid (opE g ⟨2, node, prop, tie⟩ = (if fhas g.nodes node.id then 0 else 5) ∧ opG g ⟨2, node, prop, tie⟩ = goneG g node.id) := ⟨rfl, rfl⟩
    have hcall := gone_any g node.id _ _ xs B W0 (by omega) HG0.out hcn hn ht
    go_enter Try.func44, Try.ntmps44
    go_wp2_with fail
    refine hcall.mono ?_
    clear hcall
    obtain ⟨z, hz⟩ : ∃ z, z = errV (if fhas g.nodes node.id then 0 else 5) := ⟨_, rfl⟩
    have HZ := Lib.hid hz
    clear hz
    rintro e w1 ⟨un, ut, he, hown, ⟨A1, n1, c1, A2, n2, c2, rfl, rfl⟩, hB1, hK1⟩
    rw [← HZ.out] at he
    subst he
    have hs1 := hK1.s
    have n2' := (hK1.k (w.heap.size + 1 + 1) (by omega) (fun e => by have := (HG.out.n.lt _ e.symm).2; omega) (fun e => by have := (HG.out.t.lt _ e.symm).2; omega)).trans M2.out
    have a5 := block_free n2' 0
    have a6 := block_free n2' 1
    have a7 := block_cell n2' 0
    have a8 := block_cell n2' 1
    have p3 := setCell_block n2' 0 (.slice A1 n1 c1)
    have p4 := setCell_block p3 1 (.slice A2 n2 c2)
    have HP4 := Lib.hid p4
    have HS : Hid (∀ T, 29 ≠ T → Same T w1 ((w1.setCell ⟨w.heap.size + 1 + 1, 0, none⟩ (.slice A1 n1 c1)).setCell ⟨w.heap.size + 1 + 1, 1, none⟩ (.slice A2 n2 c2))) := fun T hT =>
      (Same.setCell (p := ⟨w.heap.size + 1 + 1, 0, none⟩) n2' hT _).trans (Same.setCell (p := ⟨w.heap.size + 1 + 1, 1, none⟩) p3 hT _)
    have HOW := Lib.hid hown
    have HK1 := Lib.hid hK1
    clear n2' p3 p4 hown hK1
    go_wp2_with fail
    have k2 := block_cell HP4.out 0
    have k3 := block_cell HP4.out 1
    have hk1 : Keep2 w w1 (.slice An g.nodes.length cn) (.slice At g.ties.length ct) := ⟨by omega, fun k hk h1 h2 => (HK1.out.k k (by omega) h1 h2).trans (hb0.block k hk)⟩
    exact bodyPost_ret (v := .tuple #[.agg #[.slice A1 n1 c1, .slice A2 n2 c2], z]) (by simp [results, Try.results44, go_sem, k2, k3]) rfl
      ⟨.slice A1 n1 c1, .slice A2 n2 c2, by rw [HZ.out, HE.out.1], (fun h => by
        obtain ⟨ys, hy⟩ := HOW.out (by rw [← HE.out.1]; exact h)
        rw [HE.out.2]
        exact ⟨ys, hy.same (HS.out _ (by decide)) (HS.out _ (by decide)) (HS.out _ (by decide))⟩), ⟨_, _, _, _, _, _, rfl, rfl⟩,
        (((Below.mono hb0 hB).trans hB1).setCell (p := ⟨w.heap.size + 1 + 1, 0, none⟩) (by show B ≤ w.heap.size + 1 + 1; omega) _).setCell (p := ⟨w.heap.size + 1 + 1, 1, none⟩) (by show B ≤ w.heap.size + 1 + 1; omega) _,
        (hk1.box (p := ⟨w.heap.size + 1 + 1, 0, none⟩) (by show w.heap.size ≤ w.heap.size + 1 + 1; omega) _).box (p := ⟨w.heap.size + 1 + 1, 1, none⟩) (by show w.heap.size ≤ w.heap.size + 1 + 1; omega) _⟩
  by_cases h3 : what = 3
  · subst h3
    have HE : Hid (opE g ⟨3, node, prop, tie⟩ = chgE g node.id (fun r => setE r prop) ∧ opG g ⟨3, node, prop, tie⟩ = chgG g node.id (fun r => setR r prop)) := ⟨rfl, rfl⟩
    have hcall := chg_any 82 #[.pointer (some ⟨w.heap.size + 1, 0, none⟩)] (by intro args w; kernel_rfl) (fun r => setR r prop) (fun r => setE r prop) g node.id _ _ xs B W0 (by omega) HG0.out hcn hn
      (fun r v w' hb hs => do1_any prop r v (w.heap.size + 1) w' hs HO0.out.p (cell_below hb y4) (cell_below hb y5) (cell_below hb y6) (cell_below hb y7))
    go_enter Try.func44, Try.ntmps44
    go_wp2_with fail
    refine hcall.mono ?_
    clear hcall
    obtain ⟨z, hz⟩ : ∃ z, z = errV (chgE g node.id (fun r => setE r prop)) := ⟨_, rfl⟩
    have HZ := Lib.hid hz
    clear hz
    rintro e w1 ⟨un, ut, he, hown, ⟨A1, n1, c1, A2, n2, c2, rfl, rfl⟩, hB1, hK1⟩
    rw [← HZ.out] at he
    subst he
    have hs1 := hK1.s
    have n2' := (hK1.k (w.heap.size + 1 + 1) (by omega) (fun e => by have := (HG.out.n.lt _ e.symm).2; omega) (fun e => by have := (HG.out.t.lt _ e.symm).2; omega)).trans M2.out
    have a5 := block_free n2' 0
    have a6 := block_free n2' 1
    have a7 := block_cell n2' 0
    have a8 := block_cell n2' 1
    have p3 := setCell_block n2' 0 (.slice A1 n1 c1)
    have p4 := setCell_block p3 1 (.slice A2 n2 c2)
    have HP4 := Lib.hid p4
    have HS : Hid (∀ T, 29 ≠ T → Same T w1 ((w1.setCell ⟨w.heap.size + 1 + 1, 0, none⟩ (.slice A1 n1 c1)).setCell ⟨w.heap.size + 1 + 1, 1, none⟩ (.slice A2 n2 c2))) := fun T hT =>
      (Same.setCell (p := ⟨w.heap.size + 1 + 1, 0, none⟩) n2' hT _).trans (Same.setCell (p := ⟨w.heap.size + 1 + 1, 1, none⟩) p3 hT _)
    have HOW := Lib.hid hown
    have HK1 := Lib.hid hK1
    clear n2' p3 p4 hown hK1
    go_wp2_with fail
    have k2 := block_cell HP4.out 0
    have k3 := block_cell HP4.out 1
    have hk1 : Keep2 w w1 (.slice An g.nodes.length cn) (.slice At g.ties.length ct) := ⟨by omega, fun k hk h1 h2 => (HK1.out.k k (by omega) h1 h2).trans (hb0.block k hk)⟩
    exact bodyPost_ret (v := .tuple #[.agg #[.slice A1 n1 c1, .slice A2 n2 c2], z]) (by simp [results, Try.results44, go_sem, k2, k3]) rfl
      ⟨.slice A1 n1 c1, .slice A2 n2 c2, by rw [HZ.out, HE.out.1], (fun h => by
        obtain ⟨ys, hy⟩ := HOW.out (by rw [← HE.out.1]; exact h)
        rw [HE.out.2]
        exact ⟨ys, hy.same (HS.out _ (by decide)) (HS.out _ (by decide)) (HS.out _ (by decide))⟩), ⟨_, _, _, _, _, _, rfl, rfl⟩,
        (((Below.mono hb0 hB).trans hB1).setCell (p := ⟨w.heap.size + 1 + 1, 0, none⟩) (by show B ≤ w.heap.size + 1 + 1; omega) _).setCell (p := ⟨w.heap.size + 1 + 1, 1, none⟩) (by show B ≤ w.heap.size + 1 + 1; omega) _,
        (hk1.box (p := ⟨w.heap.size + 1 + 1, 0, none⟩) (by show w.heap.size ≤ w.heap.size + 1 + 1; omega) _).box (p := ⟨w.heap.size + 1 + 1, 1, none⟩) (by show w.heap.size ≤ w.heap.size + 1 + 1; omega) _⟩
  by_cases h4 : what = 4
  · subst h4
    have HE : Hid (opE g ⟨4, node, prop, tie⟩ = chgE g node.id (fun r => unsetE r prop.name) ∧ opG g ⟨4, node, prop, tie⟩ = chgG g node.id (fun r => unsetR r prop.name)) := ⟨rfl, rfl⟩
    have hcall := chg_any 83 #[.pointer (some ⟨w.heap.size + 1, 0, none⟩)] (by intro args w; kernel_rfl) (fun r => unsetR r prop.name) (fun r => unsetE r prop.name) g node.id _ _ xs B W0 (by omega) HG0.out hcn hn
      (fun r v w' hb hs => do2_any prop.name r v (w.heap.size + 1) w' hs (cell_below hb y4))
    go_enter Try.func44, Try.ntmps44
    go_wp2_with fail
    refine hcall.mono ?_
    clear hcall
    obtain ⟨z, hz⟩ : ∃ z, z = errV (chgE g node.id (fun r => unsetE r prop.name)) := ⟨_, rfl⟩
    have HZ := Lib.hid hz
    clear hz
    rintro e w1 ⟨un, ut, he, hown, ⟨A1, n1, c1, A2, n2, c2, rfl, rfl⟩, hB1, hK1⟩
    rw [← HZ.out] at he
    subst he
    have hs1 := hK1.s
    have n2' := (hK1.k (w.heap.size + 1 + 1) (by omega) (fun e => by have := (HG.out.n.lt _ e.symm).2; omega) (fun e => by have := (HG.out.t.lt _ e.symm).2; omega)).trans M2.out
    have a5 := block_free n2' 0
    have a6 := block_free n2' 1
    have a7 := block_cell n2' 0
    have a8 := block_cell n2' 1
    have p3 := setCell_block n2' 0 (.slice A1 n1 c1)
    have p4 := setCell_block p3 1 (.slice A2 n2 c2)
    have HP4 := Lib.hid p4
    have HS : Hid (∀ T, 29 ≠ T → Same T w1 ((w1.setCell ⟨w.heap.size + 1 + 1, 0, none⟩ (.slice A1 n1 c1)).setCell ⟨w.heap.size + 1 + 1, 1, none⟩ (.slice A2 n2 c2))) := fun T hT =>
      (Same.setCell (p := ⟨w.heap.size + 1 + 1, 0, none⟩) n2' hT _).trans (Same.setCell (p := ⟨w.heap.size + 1 + 1, 1, none⟩) p3 hT _)
    have HOW := Lib.hid hown
    have HK1 := Lib.hid hK1
    clear n2' p3 p4 hown hK1
    go_wp2_with fail
    have k2 := block_cell HP4.out 0
    have k3 := block_cell HP4.out 1
    have hk1 : Keep2 w w1 (.slice An g.nodes.length cn) (.slice At g.ties.length ct) := ⟨by omega, fun k hk h1 h2 => (HK1.out.k k (by omega) h1 h2).trans (hb0.block k hk)⟩
    exact bodyPost_ret (v := .tuple #[.agg #[.slice A1 n1 c1, .slice A2 n2 c2], z]) (by simp [results, Try.results44, go_sem, k2, k3]) rfl
      ⟨.slice A1 n1 c1, .slice A2 n2 c2, by rw [HZ.out, HE.out.1], (fun h => by
        obtain ⟨ys, hy⟩ := HOW.out (by rw [← HE.out.1]; exact h)
        rw [HE.out.2]
        exact ⟨ys, hy.same (HS.out _ (by decide)) (HS.out _ (by decide)) (HS.out _ (by decide))⟩), ⟨_, _, _, _, _, _, rfl, rfl⟩,
        (((Below.mono hb0 hB).trans hB1).setCell (p := ⟨w.heap.size + 1 + 1, 0, none⟩) (by show B ≤ w.heap.size + 1 + 1; omega) _).setCell (p := ⟨w.heap.size + 1 + 1, 1, none⟩) (by show B ≤ w.heap.size + 1 + 1; omega) _,
        (hk1.box (p := ⟨w.heap.size + 1 + 1, 0, none⟩) (by show w.heap.size ≤ w.heap.size + 1 + 1; omega) _).box (p := ⟨w.heap.size + 1 + 1, 1, none⟩) (by show w.heap.size ≤ w.heap.size + 1 + 1; omega) _⟩
  by_cases h5 : what = 5
  · subst h5
    have HE : Hid (opE g ⟨5, node, prop, tie⟩ = tieErr g tie true ∧ opG g ⟨5, node, prop, tie⟩ = tieG g tie true) := ⟨rfl, rfl⟩
    have hcall := tie_any g tie true _ _ xs B W0 (by omega) HG0.out hct ht HO0.out.t
    go_enter Try.func44, Try.ntmps44
    go_wp2_with fail
    refine hcall.mono ?_
    clear hcall
    obtain ⟨z, hz⟩ : ∃ z, z = errV (tieErr g tie true) := ⟨_, rfl⟩
    have HZ := Lib.hid hz
    clear hz
    rintro e w1 ⟨un, ut, he, hown, ⟨A1, n1, c1, A2, n2, c2, rfl, rfl⟩, hB1, hK1⟩
    rw [← HZ.out] at he
    subst he
    have hs1 := hK1.s
    have n2' := (hK1.k (w.heap.size + 1 + 1) (by omega) (fun e => by have := (HG.out.n.lt _ e.symm).2; omega) (fun e => by have := (HG.out.t.lt _ e.symm).2; omega)).trans M2.out
    have a5 := block_free n2' 0
    have a6 := block_free n2' 1
    have a7 := block_cell n2' 0
    have a8 := block_cell n2' 1
    have p3 := setCell_block n2' 0 (.slice A1 n1 c1)
    have p4 := setCell_block p3 1 (.slice A2 n2 c2)
    have HP4 := Lib.hid p4
    have HS : Hid (∀ T, 29 ≠ T → Same T w1 ((w1.setCell ⟨w.heap.size + 1 + 1, 0, none⟩ (.slice A1 n1 c1)).setCell ⟨w.heap.size + 1 + 1, 1, none⟩ (.slice A2 n2 c2))) := fun T hT =>
      (Same.setCell (p := ⟨w.heap.size + 1 + 1, 0, none⟩) n2' hT _).trans (Same.setCell (p := ⟨w.heap.size + 1 + 1, 1, none⟩) p3 hT _)
    have HOW := Lib.hid hown
    have HK1 := Lib.hid hK1
    clear n2' p3 p4 hown hK1
    go_wp2_with fail
    have k2 := block_cell HP4.out 0
    have k3 := block_cell HP4.out 1
    have hk1 : Keep2 w w1 (.slice An g.nodes.length cn) (.slice At g.ties.length ct) := ⟨by omega, fun k hk h1 h2 => (HK1.out.k k (by omega) h1 h2).trans (hb0.block k hk)⟩
    exact bodyPost_ret (v := .tuple #[.agg #[.slice A1 n1 c1, .slice A2 n2 c2], z]) (by simp [results, Try.results44, go_sem, k2, k3]) rfl
      ⟨.slice A1 n1 c1, .slice A2 n2 c2, by rw [HZ.out, HE.out.1], (fun h => by
        obtain ⟨ys, hy⟩ := HOW.out (by rw [← HE.out.1]; exact h)
        rw [HE.out.2]
        exact ⟨ys, hy.same (HS.out _ (by decide)) (HS.out _ (by decide)) (HS.out _ (by decide))⟩), ⟨_, _, _, _, _, _, rfl, rfl⟩,
        (((Below.mono hb0 hB).trans hB1).setCell (p := ⟨w.heap.size + 1 + 1, 0, none⟩) (by show B ≤ w.heap.size + 1 + 1; omega) _).setCell (p := ⟨w.heap.size + 1 + 1, 1, none⟩) (by show B ≤ w.heap.size + 1 + 1; omega) _,
        (hk1.box (p := ⟨w.heap.size + 1 + 1, 0, none⟩) (by show w.heap.size ≤ w.heap.size + 1 + 1; omega) _).box (p := ⟨w.heap.size + 1 + 1, 1, none⟩) (by show w.heap.size ≤ w.heap.size + 1 + 1; omega) _⟩
  by_cases h6 : what = 6
  · subst h6
    have HE : Hid (opE g ⟨6, node, prop, tie⟩ = tieErr g tie false ∧ opG g ⟨6, node, prop, tie⟩ = tieG g tie false) := ⟨rfl, rfl⟩
    have hcall := tie_any g tie false _ _ xs B W0 (by omega) HG0.out hct ht HO0.out.t
    go_enter Try.func44, Try.ntmps44
    go_wp2_with fail
    refine hcall.mono ?_
    clear hcall
    obtain ⟨z, hz⟩ : ∃ z, z = errV (tieErr g tie false) := ⟨_, rfl⟩
    have HZ := Lib.hid hz
    clear hz
    rintro e w1 ⟨un, ut, he, hown, ⟨A1, n1, c1, A2, n2, c2, rfl, rfl⟩, hB1, hK1⟩
    rw [← HZ.out] at he
    subst he
    have hs1 := hK1.s
    have n2' := (hK1.k (w.heap.size + 1 + 1) (by omega) (fun e => by have := (HG.out.n.lt _ e.symm).2; omega) (fun e => by have := (HG.out.t.lt _ e.symm).2; omega)).trans M2.out
    have a5 := block_free n2' 0
    have a6 := block_free n2' 1
    have a7 := block_cell n2' 0
    have a8 := block_cell n2' 1
    have p3 := setCell_block n2' 0 (.slice A1 n1 c1)
    have p4 := setCell_block p3 1 (.slice A2 n2 c2)
    have HP4 := Lib.hid p4
    have HS : Hid (∀ T, 29 ≠ T → Same T w1 ((w1.setCell ⟨w.heap.size + 1 + 1, 0, none⟩ (.slice A1 n1 c1)).setCell ⟨w.heap.size + 1 + 1, 1, none⟩ (.slice A2 n2 c2))) := fun T hT =>
      (Same.setCell (p := ⟨w.heap.size + 1 + 1, 0, none⟩) n2' hT _).trans (Same.setCell (p := ⟨w.heap.size + 1 + 1, 1, none⟩) p3 hT _)
    have HOW := Lib.hid hown
    have HK1 := Lib.hid hK1
    clear n2' p3 p4 hown hK1
    go_wp2_with fail
    have k2 := block_cell HP4.out 0
    have k3 := block_cell HP4.out 1
    have hk1 : Keep2 w w1 (.slice An g.nodes.length cn) (.slice At g.ties.length ct) := ⟨by omega, fun k hk h1 h2 => (HK1.out.k k (by omega) h1 h2).trans (hb0.block k hk)⟩
    exact bodyPost_ret (v := .tuple #[.agg #[.slice A1 n1 c1, .slice A2 n2 c2], z]) (by simp [results, Try.results44, go_sem, k2, k3]) rfl
      ⟨.slice A1 n1 c1, .slice A2 n2 c2, by rw [HZ.out, HE.out.1], (fun h => by
        obtain ⟨ys, hy⟩ := HOW.out (by rw [← HE.out.1]; exact h)
        rw [HE.out.2]
        exact ⟨ys, hy.same (HS.out _ (by decide)) (HS.out _ (by decide)) (HS.out _ (by decide))⟩), ⟨_, _, _, _, _, _, rfl, rfl⟩,
        (((Below.mono hb0 hB).trans hB1).setCell (p := ⟨w.heap.size + 1 + 1, 0, none⟩) (by show B ≤ w.heap.size + 1 + 1; omega) _).setCell (p := ⟨w.heap.size + 1 + 1, 1, none⟩) (by show B ≤ w.heap.size + 1 + 1; omega) _,
        (hk1.box (p := ⟨w.heap.size + 1 + 1, 0, none⟩) (by show w.heap.size ≤ w.heap.size + 1 + 1; omega) _).box (p := ⟨w.heap.size + 1 + 1, 1, none⟩) (by show w.heap.size ≤ w.heap.size + 1 + 1; omega) _⟩
  have HE : Hid (opE g ⟨what, node, prop, tie⟩ = 1) := by
    unfold Hid opE
    simp only [h1, h2, h3, h4, h5, h6, if_false]
  have b1 : (what == 1) = false := beq_eq_false_iff_ne.2 h1
  have b2 : (what == 2) = false := beq_eq_false_iff_ne.2 h2
  have b3 : (what == 3) = false := beq_eq_false_iff_ne.2 h3
  have b4 : (what == 4) = false := beq_eq_false_iff_ne.2 h4
  have b5 : (what == 5) = false := beq_eq_false_iff_ne.2 h5
  have b6 : (what == 6) = false := beq_eq_false_iff_ne.2 h6
  have HB0 := Lib.hid hb0
  have a5 := block_free M2.out 0
  have a6 := block_free M2.out 1
  have a7 := block_cell M2.out 0
  have a8 := block_cell M2.out 1
  have p3 := setCell_block M2.out 0 (.slice An g.nodes.length cn)
  have p4 := setCell_block p3 1 (.slice At g.ties.length ct)
  have HP4 := Lib.hid p4
  clear p3 p4
  go_enter Try.func44, Try.ntmps44
  go_wp2_with fail
  have k2 := block_cell HP4.out 0
  have k3 := block_cell HP4.out 1
  exact bodyPost_ret (v := .tuple #[.agg #[.slice An g.nodes.length cn, .slice At g.ties.length ct], .iface 23 (.int .i64 1)]) (by simp [results, Try.results44, go_sem, k2, k3]) rfl
    ⟨.slice An g.nodes.length cn, .slice At g.ties.length ct, by rw [HE.out]; rfl, (fun h => by rw [HE.out] at h; exact absurd h (by decide)), ⟨_, _, _, _, _, _, rfl, rfl⟩,
      ((HB0.out.mono hB).setCell (p := ⟨w.heap.size + 1 + 1, 0, none⟩) (by show B ≤ w.heap.size + 1 + 1; omega) _).setCell (p := ⟨w.heap.size + 1 + 1, 1, none⟩) (by show B ≤ w.heap.size + 1 + 1; omega) _,
      ((Keep2.below HB0.out).box (p := ⟨w.heap.size + 1 + 1, 0, none⟩) (by show w.heap.size ≤ w.heap.size + 1 + 1; omega) _).box (p := ⟨w.heap.size + 1 + 1, 1, none⟩) (by show w.heap.size ≤ w.heap.size + 1 + 1; omega) _⟩
end Go.Proofs.Ytdfeloeainabjaa
