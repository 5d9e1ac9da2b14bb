/- Parts: CloN, Numb, GrO, OwnS, OwnT, ChA, ChP, ChB. -/
import Derived.Test.YthefofclbepkoaaDoorMg12
import Derived.Test.YthefofclbepkoaaDoorMg01
import Derived.Test.YthefofclbepkoaaDoorRows
import Derived.Deep.RegionLaw
import Derived.Test.YthefofclbepkoaaDoorMg11
import Derived.Deep.RegionHeld3
/- Contracts: slices.Clone at nodes and at ties, graph.OwnNode, graph.Own. -/
namespace Go.Proofs.YthefofclbepkoaaDoor
open Go Go.RowKit



theorem clone_nods_info : (Tryd.prog.info? 56).map (fun i => (i.zero, i.size, i.bytes)) = some (some (.agg #[.int .i64 0, .string .empty, .slice none 0 0]), 3, 48) := by kernel_rfl
theorem clone_ties_info : (Tryd.prog.info? 102).map (fun i => (i.zero, i.size, i.bytes)) = some (some (.agg #[.string .empty, .int .i64 0, .int .i64 0]), 3, 32) := by kernel_rfl
set_option maxHeartbeats 1000000 in
theorem ownNode_any (n : Nod) (v : Value) (w : World) (hv : Sl prpL w v n.props) (hl : n.props.length ≤ 1048576) :
    Calls Tryd.prog 62 #[.agg #[.int .i64 n.id, .string n.kind, v]] w fun e w' => ∃ u, e = .returned (.agg #[.int .i64 n.id, .string n.kind, u]) ∧ OwnP w' w.heap.size u n.props ∧ Below w.heap.size w w' := by
  have hb0 : Below w.heap.size w ((w.alloc (.cells #[.int .i64 n.id, .string n.kind, v] 56)).alloc (.cells #[.int .i64 0, .string .empty, .slice none 0 0] 56)) := ((Below.refl _ _).alloc (Nat.le_refl _) _).alloc (by simp) _
  have hcl := clone_prps (hv.below hb0) hl
  have g0 : ((w.alloc (.cells #[.int .i64 n.id, .string n.kind, v] 56)).alloc (.cells #[.int .i64 0, .string .empty, .slice none 0 0] 56)).heap[w.heap.size]? = some (.cells #[.int .i64 n.id, .string n.kind, v] 56 (0, 0)) := by
    rw [Below.heap_alloc _ _ _ (by simp)]; exact heap_alloc_new _ _
  have g1 : ((w.alloc (.cells #[.int .i64 n.id, .string n.kind, v] 56)).alloc (.cells #[.int .i64 0, .string .empty, .slice none 0 0] 56)).heap[w.heap.size + 1]? = some (.cells #[.int .i64 0, .string .empty, .slice none 0 0] 56 (0, 0)) := by
    have := heap_alloc_new (w.alloc (.cells #[.int .i64 n.id, .string n.kind, v] 56)) (.cells #[.int .i64 0, .string .empty, .slice none 0 0] 56); simpa using this
  have x0 := block_cell g0 0
  have x1 := block_cell g0 1
  have x2 := block_cell g0 2
  have hsz : ((w.alloc (.cells #[.int .i64 n.id, .string n.kind, v] 56)).alloc (.cells #[.int .i64 0, .string .empty, .slice none 0 0] 56)).heap.size = w.heap.size + 2 := by simp
  obtain ⟨A, c, rfl, _, _⟩ := hv.form
  clear hv
  go_enter Tryd.func62, Tryd.ntmps62
  go_wp2_with fail
  refine hcl.mono ?_
  clear hcl
  rintro e w2 ⟨u, xs, rfl, hown, hrow, hb2⟩
  obtain ⟨rfl, hok⟩ := Row.flat hrow
  have hown := Own.mono (B' := w.heap.size) hown (by rw [hsz]; omega)
  have HK := Lib.hid hok
  have g2 := (hb2.block _ (Array.getElem?_eq_some_iff.1 g0).1).trans g0
  have g3 := (hb2.block _ (Array.getElem?_eq_some_iff.1 g1).1).trans g1
  have y0 := block_cell g2 0
  have y1 := block_cell g2 1
  have y2 := block_cell g2 2
  have y3 := block_cell g3 0
  have y4 := block_cell g3 1
  have y5 := block_cell g3 2
  have f2 := block_free g2 2
  have f3 := block_free g3 0
  have f4 := block_free g3 1
  have f5 := block_free g3 2
  have hB2 := hb0.trans (hb2.mono hb0.size)
  have HO : Hid (∀ W, Same 107 w2 W → OwnP W w.heap.size u n.props) := fun W hs => ⟨Own.same hown hs, HK.out⟩
  obtain ⟨A2, c2, rfl, _, _⟩ := hown.form
  have hsame : ∀ W : World, W = ((((w2.setCell ⟨w.heap.size, 2, none⟩ (.slice A2 n.props.length c2)).setCell ⟨w.heap.size + 1, 0, none⟩ (.int .i64 n.id)).setCell ⟨w.heap.size + 1, 1, none⟩ (.string n.kind)).setCell ⟨w.heap.size + 1, 2, none⟩ (.slice A2 n.props.length c2)) → Same 107 w2 W := by
    rintro W rfl
    have k0 := setCell_block g2 2 (.slice A2 n.props.length c2)
    have s0 := Same.setCell (T := 107) (p := ⟨w.heap.size, 2, none⟩) g2 (by decide) (.slice A2 n.props.length c2)
    have k1 : (w2.setCell ⟨w.heap.size, 2, none⟩ (.slice A2 n.props.length c2)).heap[w.heap.size + 1]? = some (.cells #[.int .i64 0, .string .empty, .slice none 0 0] 56 (0, 0)) := by rw [Below.heap_setCell _ _ _ _ (by simp)]; exact g3
    have s1 := Same.setCell (T := 107) (p := ⟨w.heap.size + 1, 0, none⟩) k1 (by decide) (.int .i64 n.id)
    have k2 := setCell_block k1 0 (.int .i64 n.id)
    have s2 := Same.setCell (T := 107) (p := ⟨w.heap.size + 1, 1, none⟩) k2 (by decide) (.string n.kind)
    have k3 := setCell_block k2 1 (.string n.kind)
    have s3 := Same.setCell (T := 107) (p := ⟨w.heap.size + 1, 2, none⟩) k3 (by decide) (.slice A2 n.props.length c2)
    exact s0.trans (s1.trans (s2.trans s3))
  have HS := Lib.hid hsame
  have G3 := Lib.hid g3
  clear hown hrow hok g0 g1 g2 g3 x0 x1 x2 hsame
  go_wp2_with fail
  have h3 : ((((w2.setCell ⟨w.heap.size, 2, none⟩ (.slice A2 n.props.length c2)).setCell ⟨w.heap.size + 1, 0, none⟩ (.int .i64 n.id)).setCell ⟨w.heap.size + 1, 1, none⟩ (.string n.kind)).setCell ⟨w.heap.size + 1, 2, none⟩ (.slice A2 n.props.length c2)).heap[w.heap.size + 1]? = some (.cells #[.int .i64 n.id, .string n.kind, .slice A2 n.props.length c2] 56 (0, 0)) := by
    have k1 : (w2.setCell ⟨w.heap.size, 2, none⟩ (.slice A2 n.props.length c2)).heap[w.heap.size + 1]? = some (.cells #[.int .i64 0, .string .empty, .slice none 0 0] 56 (0, 0)) := by rw [Below.heap_setCell _ _ _ _ (by simp)]; exact G3.out
    exact setCell_block (setCell_block (setCell_block k1 0 (.int .i64 n.id)) 1 (.string n.kind)) 2 (.slice A2 n.props.length c2)
  have k2 := block_cell h3 0
  have k3 := block_cell h3 1
  have k4 := block_cell h3 2
  exact bodyPost_ret (v := .agg #[.int .i64 n.id, .string n.kind, .slice A2 n.props.length c2]) (by simp [results, Tryd.results62, go_sem, k2, k3, k4]) rfl ⟨_, rfl, HO.out _ (HS.out _ rfl), (((hB2.setCell (p := ⟨w.heap.size, 2, none⟩) (Nat.le_refl _) _).setCell (p := ⟨w.heap.size + 1, 0, none⟩) (by show w.heap.size ≤ w.heap.size + 1; omega) _).setCell (p := ⟨w.heap.size + 1, 1, none⟩) (by show w.heap.size ≤ w.heap.size + 1; omega) _).setCell (p := ⟨w.heap.size + 1, 2, none⟩) (by show w.heap.size ≤ w.heap.size + 1; omega) _⟩
end Go.Proofs.YthefofclbepkoaaDoor

/- Plain: a step of a region that draws, by a contract; the contract of kinlaw4.number. -/
namespace Go.Proofs.YthefofclbepkoaaDoor
open Go Go.RowKit

/-- A step of a region that draws, as it stands. -/
theorem step_here {P : Program} {ops : Array Oper} {o : Oper} {a : Act} {w : World} {K : Act → World → Prop} {Q : Exit → Act → World → Prop} {E : Prop} (hg : o.guard = none) (h : Oper.wp P o a w K Q) :
    if Region.wanted o (yielded ops a.tmps) = true then Oper.wp P o a w K Q else E := by
  rw [if_pos (by simp [Region.wanted, hg])]; exact h
/-- A call at a step of a region that draws. -/
theorem step_call {P : Program} {ops : Array Oper} {o : Oper} {a : Act} {w : World} {K : Act → World → Prop} {Q : Exit → Act → World → Prop} {E : Prop} (hg : o.guard = none) (g : Nat) (vs : Array Value)
    (hr : (execOp a.eval o).run P w = .ok (.enter g vs) w) (u : Value) {R : World → Prop}
    (h : Calls P g vs w fun e w' => e = .returned u ∧ R w') (hk : ∀ w', R w' → K (a.put o.dst u) w') :
    if Region.wanted o (yielded ops a.tmps) = true then Oper.wp P o a w K Q else E := by
  rw [if_pos (by simp [Region.wanted, hg])]
  unfold Oper.wp
  rw [hr, Oper.upon_enter]
  exact h.mono fun e w' ⟨he, hR⟩ => by subst he; exact hk w' hR
/-- .. whatever it answers. -/
theorem step_callx {P : Program} {ops : Array Oper} {o : Oper} {a : Act} {w : World} {K : Act → World → Prop} {Q : Exit → Act → World → Prop} {E : Prop} (hg : o.guard = none) (g : Nat) (vs : Array Value)
    (hr : (execOp a.eval o).run P w = .ok (.enter g vs) w) {R : Ending → World → Prop}
    (h : Calls P g vs w R) (hk : ∀ e w', R e w' → ∃ u, e = .returned u ∧ K (a.put o.dst u) w') :
    if Region.wanted o (yielded ops a.tmps) = true then Oper.wp P o a w K Q else E := by
  rw [if_pos (by simp [Region.wanted, hg])]
  unfold Oper.wp
  rw [hr, Oper.upon_enter]
  exact h.mono fun e w' hR => by
    obtain ⟨u, rfl, hK⟩ := hk e w' hR
    exact hK
theorem number_any (n : Int) (w : World) : Calls Tryd.prog 52 #[.int .i64 n] w fun e w' => e = .returned (.agg #[.int .i64 1, .int .i64 n, .string .empty]) ∧ Below w.heap.size w w' := by
  go_enter Tryd.func52, Tryd.ntmps52
  go_wp2_with fail
  exact bodyPost_ret (v := .agg #[.int .i64 1, .int .i64 n, .string .empty]) (by simp [results, Tryd.results52, go_sem]; rfl) rfl ⟨rfl, (Below.refl _ _).alloc (Nat.le_refl _) _⟩
end Go.Proofs.YthefofclbepkoaaDoor

/- Contract: graph.Own. -/
namespace Go.Proofs.YthefofclbepkoaaDoor
open Go Go.RowKit

theorem Same.cellOf {T e : TypeId} {w : World} {B sz g o n c : Nat} {xs : List Value} (h : Own w B e sz (.slice (some ⟨g, o, none⟩) n c) n xs) (hne : e ≠ T) (j : Nat) (u : Value) : Same T w (w.setCell ⟨g, j, none⟩ u) := by
  rcases h.2 with ⟨h0, _⟩ | ⟨g', o', cap, cur, hv, hb, hg, _⟩
  · cases h0
  · injection hv with e1 _ _
    injection e1 with e1
    injection e1 with e1 e2
    subst e1
    exact Same.setCell (p := ⟨g, j, none⟩) hg hne u
/-- What stands between two rounds: the first k nodes have records of the call's own. -/
structure OwnI (w wr : World) (g : Grf) (xs0 : List Value) (vn vt : Value) (k : Nat) (ys : List Value) : Prop where
  b : Below w.heap.size w wr
  z : w.heap.size + 2 ≤ wr.heap.size
  q : wr.heap[w.heap.size]? = some (.cells #[vn, vt] 47 (0, 0))
  r : wr.heap[w.heap.size + 1]? = some (.cells #[.slice none 0 0, .slice none 0 0] 47 (0, 0))
  n : Own wr w.heap.size 56 3 vn g.nodes.length (ys ++ xs0.drop (k * 3))
  o : OwnNods wr w.heap.size (g.nodes.take k) ys
  t : Own wr w.heap.size 102 3 vt g.ties.length (g.ties.flatMap Tie.enc)
theorem OwnI.step {w wr w2 : World} {g : Grf} {xs0 ys : List Value} {gb o c : Nat} {vt u : Value} {k : Nat} {d : Nod} (h : OwnI w wr g xs0 (.slice (some ⟨gb, o, none⟩) g.nodes.length c) vt k ys) (hd : g.nodes[k]? = some d) (h1 : I64 d.id) (h2 : Sm d.kind)
    (hlen : xs0.length = g.nodes.length * 3) (hb : Below wr.heap.size wr w2) (hu : OwnP w2 wr.heap.size u d.props) :
    OwnI w (((w2.setCell ⟨gb, o + k * 3, none⟩ (.int .i64 d.id)).setCell ⟨gb, o + k * 3 + 1, none⟩ (.string d.kind)).setCell ⟨gb, o + k * 3 + 2, none⟩ u) g xs0 (.slice (some ⟨gb, o, none⟩) g.nodes.length c) vt (k + 1) (ys ++ [.int .i64 d.id, .string d.kind, u]) := by
  have hkl := (List.getElem?_eq_some_iff.1 hd).1
  have hz := h.z
  have hyl := h.o.len
  have hyl' : ys.length = k * 3 := by rw [hyl, List.length_take, Nat.min_eq_left (by omega)]
  have o0 := h.n.below hb
  have o1 := o0.store (k * 3) (by omega) (.int .i64 d.id)
  have o2 := o1.store (k * 3 + 1) (by omega) (.string d.kind)
  have o3 := o2.store (k * 3 + 2) (by omega) u
  have hs : ∀ T, 56 ≠ T → Same T wr (((w2.setCell ⟨gb, o + k * 3, none⟩ (.int .i64 d.id)).setCell ⟨gb, o + k * 3 + 1, none⟩ (.string d.kind)).setCell ⟨gb, o + k * 3 + 2, none⟩ u) := fun T hT =>
    (Same.below hb).trans ((Same.cellOf o0 hT _ _).trans ((Same.cellOf o1 hT _ _).trans (Same.cellOf o2 hT _ _)))
  have hs2 : ∀ T, 56 ≠ T → Same T w2 (((w2.setCell ⟨gb, o + k * 3, none⟩ (.int .i64 d.id)).setCell ⟨gb, o + k * 3 + 1, none⟩ (.string d.kind)).setCell ⟨gb, o + k * 3 + 2, none⟩ u) := fun T hT =>
    (Same.cellOf o0 hT _ _).trans ((Same.cellOf o1 hT _ _).trans (Same.cellOf o2 hT _ _))
  have hgb := (o0.lt gb rfl).1
  have hx : ((((ys ++ xs0.drop (k * 3)).set (k * 3) (.int .i64 d.id)).set (k * 3 + 1) (.string d.kind)).set (k * 3 + 2) u) = ys ++ [.int .i64 d.id, .string d.kind, u] ++ xs0.drop ((k + 1) * 3) := by
    have e : xs0.drop (k * 3) = (xs0.drop (k * 3)).take 3 ++ xs0.drop ((k + 1) * 3) := by
      rw [show (k + 1) * 3 = k * 3 + 3 by omega, ← List.drop_drop, List.take_append_drop]
    have hl3 : ((xs0.drop (k * 3)).take 3).length = 3 := by rw [List.length_take, List.length_drop]; omega
    rw [e]
    generalize (xs0.drop (k * 3)).take 3 = Z at *
    match Z, hl3 with
    | [a, b, c'], _ =>
      have s := setAll_append ys [.int .i64 d.id, .string d.kind, u] ([a, b, c'] ++ xs0.drop ((k + 1) * 3)) 0
      rw [setAll_head [.int .i64 d.id, .string d.kind, u] [a, b, c'] (xs0.drop ((k + 1) * 3)) rfl, Nat.add_zero, hyl'] at s
      rw [List.append_assoc]
      exact s
  rw [hx] at o3
  refine ⟨?_, ?_, hs _ (by decide) _ _ _ h.q, hs _ (by decide) _ _ _ h.r, ?_, ?_, h.t.same (hs _ (by decide))⟩
  · exact (((h.b.trans (hb.mono h.b.size)).setCell (p := ⟨gb, _, none⟩) hgb _).setCell (p := ⟨gb, _, none⟩) hgb _).setCell (p := ⟨gb, _, none⟩) hgb _
  · have := hb.size
    simp [World.setCell]; omega
  · exact o3
  · rw [take_snoc hd]
    exact (h.o.same (hs _ (by decide))).snoc h1 h2 hu.2 ((hu.1.same (hs2 _ (by decide))).mono (by omega))
end Go.Proofs.YthefofclbepkoaaDoor

/- Contract: index.OwnSchema; schemas that a call owns. -/
namespace Go.Proofs.YthefofclbepkoaaDoor
open Go Go.RowKit

/-- Kinds of which each one's lists are the call's own. -/
def OwnKnds (w : World) (B : Nat) : List Knd → List Value → Prop
  | [], xs => xs = []
  | d :: l, xs => ∃ u x ys, xs = [.string d.name, u, x] ++ ys ∧ Sm d.name ∧ (∀ p ∈ d.ofs, Sm p) ∧ Own w B 9 1 u d.ofs.length (d.ofs.map Value.string) ∧ (∀ p ∈ d.fields, p.ok) ∧ Own w B 80 4 x d.fields.length (d.fields.flatMap Fld.enc) ∧ OwnKnds w B l ys
theorem OwnKnds.same {w w' : World} {B : Nat} (h1 : Same 9 w w') (h2 : Same 80 w w') : ∀ {l : List Knd} {xs : List Value}, OwnKnds w B l xs → OwnKnds w' B l xs
  | [], _, h => h
  | _ :: _, _, h => by
    obtain ⟨u, x, ys, rfl, a1, a2, a3, a4, a5, a6⟩ := h
    exact ⟨u, x, ys, rfl, a1, a2, a3.same h1, a4, a5.same h2, a6.same h1 h2⟩
theorem OwnKnds.snoc {w : World} {B : Nat} {d : Knd} {u x : Value} (a1 : Sm d.name) (a2 : ∀ p ∈ d.ofs, Sm p) (a3 : Own w B 9 1 u d.ofs.length (d.ofs.map Value.string)) (a4 : ∀ p ∈ d.fields, p.ok) (a5 : Own w B 80 4 x d.fields.length (d.fields.flatMap Fld.enc)) :
    ∀ {l : List Knd} {xs : List Value}, OwnKnds w B l xs → OwnKnds w B (l ++ [d]) (xs ++ [.string d.name, u, x])
  | [], xs, h => by rw [show xs = [] from h]; exact ⟨u, x, [], by simp, a1, a2, a3, a4, a5, rfl⟩
  | e :: l, xs, h => by
    obtain ⟨v, y, ys, rfl, b1, b2, b3, b4, b5, b6⟩ := h
    exact ⟨v, y, ys ++ [.string d.name, u, x], by simp, b1, b2, b3, b4, b5, b6.snoc a1 a2 a3 a4 a5⟩
theorem OwnKnds.len {w : World} {B : Nat} : ∀ {l : List Knd} {xs : List Value}, OwnKnds w B l xs → xs.length = l.length * 3
  | [], xs, h => by rw [show xs = [] from h]; rfl
  | d :: l, xs, h => by
    obtain ⟨u, x, ys, rfl, _, _, _, _, _, h6⟩ := h
    have := h6.len
    simp only [List.length_append, List.length_cons, List.length_nil, this]
    omega
theorem OwnKnds.row {w : World} {B : Nat} : ∀ {l : List Knd} {xs : List Value}, OwnKnds w B l xs → Row kndL w l xs
  | [], _, h => h
  | _ :: _, _, h => by
    obtain ⟨u, x, ys, rfl, a1, a2, a3, a4, a5, a6⟩ := h
    exact ⟨_, ys, rfl, ⟨u, x, rfl, a1, Own.strs a2 a3, a5.flds a4⟩, a6.row⟩
theorem OwnKnds.append {w : World} {B : Nat} : ∀ {l m : List Knd} {xs ys : List Value}, OwnKnds w B l xs → OwnKnds w B m ys → OwnKnds w B (l ++ m) (xs ++ ys)
  | [], m, xs, ys, h, k => by rw [show xs = [] from h]; exact k
  | d :: l, m, xs, ys, h, k => by
    obtain ⟨u, x, zs, rfl, a1, a2, a3, a4, a5, a6⟩ := h
    exact ⟨u, x, zs ++ ys, by simp, a1, a2, a3, a4, a5, a6.append k⟩
/-- No two kinds have their fields in one block. -/
def FDist (xs : List Value) : Prop := ∀ (i j : Nat) (x y : Value) (b : Nat), i < j → xs[i * 3 + 2]? = some x → xs[j * 3 + 2]? = some y → x.ownBlock = some b → y.ownBlock ≠ some b
theorem FDist.nil : FDist [] := fun i j x y b _ h => by simp at h
theorem FDist.snoc {ys : List Value} {k : Nat} {a u x : Value} (h : FDist ys) (hl : ys.length = k * 3) (hn : ∀ (i : Nat) (y : Value) (b : Nat), ys[i * 3 + 2]? = some y → y.ownBlock = some b → x.ownBlock ≠ some b) : FDist (ys ++ [a, u, x]) := by
  intro i j y z b hij hi hj hb
  have hjl : j * 3 + 2 < (ys ++ [a, u, x]).length := (List.getElem?_eq_some_iff.1 hj).1
  rw [List.length_append, hl] at hjl
  simp only [List.length_cons, List.length_nil] at hjl
  have hil : i * 3 + 2 < ys.length := by omega
  rw [List.getElem?_append_left hil] at hi
  by_cases hjk : j < k
  · rw [List.getElem?_append_left (by omega)] at hj
    exact h i j y z b hij hi hj hb
  · obtain rfl : j = k := by omega
    rw [List.getElem?_append_right (by omega), hl, show j * 3 + 2 - j * 3 = 2 by omega] at hj
    simp at hj
    subst hj
    exact hn i y b hi hb
theorem FDist.put {xs : List Value} {k : Nat} {v : Value} (h : FDist xs) (hn : ∀ (i : Nat) (y : Value) (b : Nat), i ≠ k → xs[i * 3 + 2]? = some y → y.ownBlock = some b → v.ownBlock ≠ some b) : FDist (xs.set (k * 3 + 2) v) := by
  intro i j y z b hij hi hj hb
  rw [List.getElem?_set] at hi hj
  by_cases e1 : k = i
  · subst e1
    rw [if_pos rfl] at hi
    rw [if_neg (by omega)] at hj
    split at hi
    · simp at hi; subst hi
      intro hz
      exact hn j z b (by omega) hj hz hb
    · cases hi
  · rw [if_neg (by omega)] at hi
    by_cases e2 : k = j
    · subst e2
      rw [if_pos rfl] at hj
      split at hj
      · simp at hj; subst hj
        exact hn i y b (fun e => e1 e.symm) hi hb
      · cases hj
    · rw [if_neg (by omega)] at hj
      exact h i j y z b hij hi hj hb
theorem OwnKnds.flt {w : World} {B : Nat} : ∀ {l : List Knd} {xs : List Value}, OwnKnds w B l xs → ∀ (i : Nat) (y : Value) (b : Nat), xs[i * 3 + 2]? = some y → y.ownBlock = some b → b < w.heap.size
  | [], xs, h, i, y, b, hi, _ => by rw [show xs = [] from h] at hi; simp at hi
  | e :: l, xs, h, 0, y, b, hi, hb => by
    obtain ⟨u, x, ys, rfl, _, _, _, _, a5, _⟩ := h
    simp at hi
    subst hi
    exact (a5.lt b hb).2
  | e :: l, xs, h, i + 1, y, b, hi, hb => by
    obtain ⟨u, x, ys, rfl, _, _, _, _, _, a6⟩ := h
    rw [show (i + 1) * 3 + 2 = i * 3 + 2 + 1 + 1 + 1 by omega] at hi
    exact OwnKnds.flt a6 i y b hi hb
/-- A schema that is the call's own. -/
structure OwnS (w : World) (B : Nat) (vk vb : Value) (s : Scm) (xs : List Value) : Prop where
  n : Own w B 42 3 vk s.kinds.length xs
  o : OwnKnds w B s.kinds xs
  b : Own w B 77 5 vb s.bonds.length (s.bonds.flatMap Bnd.enc)
  k : ∀ x ∈ s.bonds, x.ok
  d : FDist xs
theorem OwnS.r {w : World} {B : Nat} {vk vb : Value} {s : Scm} {xs : List Value} (h : OwnS w B vk vb s xs) : ScmR w vk vb s := ⟨Own.row (L := kndL) h.n h.o.row, Own.bnds h.b h.k⟩
theorem OwnS.below {w w' : World} {B : Nat} {vk vb : Value} {s : Scm} {xs : List Value} (h : OwnS w B vk vb s xs) (hb : Below w.heap.size w w') : OwnS w' B vk vb s xs := ⟨h.n.below hb, h.o.same (.below hb) (.below hb), h.b.below hb, h.k, h.d⟩
theorem OwnS.same {w w' : World} {B : Nat} {vk vb : Value} {s : Scm} {xs : List Value} (h : OwnS w B vk vb s xs) (h1 : Same 42 w w') (h2 : Same 9 w w') (h3 : Same 80 w w') (h4 : Same 77 w w') : OwnS w' B vk vb s xs :=
  ⟨h.n.same h1, h.o.same h2 h3, h.b.same h4, h.k, h.d⟩
/-- What stands between two rounds: the first k kinds have lists of the call's own. -/
structure OwnSI (w wr : World) (s : Scm) (xs0 : List Value) (vk vb : Value) (k : Nat) (ys : List Value) : Prop where
  b : Below w.heap.size w wr
  z : w.heap.size + 2 ≤ wr.heap.size
  q : wr.heap[w.heap.size]? = some (.cells #[vk, vb] 25 (0, 0))
  r : wr.heap[w.heap.size + 1]? = some (.cells #[.slice none 0 0, .slice none 0 0] 25 (0, 0))
  n : Own wr w.heap.size 42 3 vk s.kinds.length (ys ++ xs0.drop (k * 3))
  o : OwnKnds wr w.heap.size (s.kinds.take k) ys
  t : Own wr w.heap.size 77 5 vb s.bonds.length (s.bonds.flatMap Bnd.enc)
  dd : FDist ys
theorem OwnSI.step {w wr w2 : World} {s : Scm} {xs0 ys : List Value} {gb o c : Nat} {vb u x : Value} {k : Nat} {d : Knd} (h : OwnSI w wr s xs0 (.slice (some ⟨gb, o, none⟩) s.kinds.length c) vb k ys) (hd : s.kinds[k]? = some d) (h1 : Sm d.name)
    (hlen : xs0.length = s.kinds.length * 3) (hx0 : xs0[k * 3]? = some (.string d.name)) (hb : Below wr.heap.size wr w2) (a2 : ∀ p ∈ d.ofs, Sm p) (a3 : Own w2 wr.heap.size 9 1 u d.ofs.length (d.ofs.map Value.string)) (a4 : ∀ p ∈ d.fields, p.ok) (a5 : Own w2 wr.heap.size 80 4 x d.fields.length (d.fields.flatMap Fld.enc)) :
    OwnSI w ((w2.setCell ⟨gb, o + k * 3 + 1, none⟩ u).setCell ⟨gb, o + k * 3 + 2, none⟩ x) s xs0 (.slice (some ⟨gb, o, none⟩) s.kinds.length c) vb (k + 1) (ys ++ [.string d.name, u, x]) := by
  have hkl := (List.getElem?_eq_some_iff.1 hd).1
  have hz := h.z
  have hyl := h.o.len
  have hyl' : ys.length = k * 3 := by rw [hyl, List.length_take, Nat.min_eq_left (by omega)]
  have o0 := h.n.below hb
  have o1 := o0.store (k * 3 + 1) (by omega) u
  have o2 := o1.store (k * 3 + 2) (by omega) x
  have hs2 : ∀ T, 42 ≠ T → Same T w2 ((w2.setCell ⟨gb, o + k * 3 + 1, none⟩ u).setCell ⟨gb, o + k * 3 + 2, none⟩ x) := fun T hT =>
    (Same.cellOf o0 hT _ _).trans (Same.cellOf o1 hT _ _)
  have hs : ∀ T, 42 ≠ T → Same T wr ((w2.setCell ⟨gb, o + k * 3 + 1, none⟩ u).setCell ⟨gb, o + k * 3 + 2, none⟩ x) := fun T hT => (Same.below hb).trans (hs2 T hT)
  have hgb := (o0.lt gb rfl).1
  have hx : (((ys ++ xs0.drop (k * 3)).set (k * 3 + 1) u).set (k * 3 + 2) x) = ys ++ [.string d.name, u, x] ++ xs0.drop ((k + 1) * 3) := by
    have e : xs0.drop (k * 3) = (xs0.drop (k * 3)).take 3 ++ xs0.drop ((k + 1) * 3) := by
      rw [show (k + 1) * 3 = k * 3 + 3 by omega, ← List.drop_drop, List.take_append_drop]
    have hl3 : ((xs0.drop (k * 3)).take 3).length = 3 := by rw [List.length_take, List.length_drop]; omega
    have h0 : ((xs0.drop (k * 3)).take 3)[0]? = some (.string d.name) := by rw [List.getElem?_take]; simp; simpa using hx0
    rw [e]
    generalize (xs0.drop (k * 3)).take 3 = Z at *
    match Z, hl3, h0 with
    | [a, b, c'], _, h0 =>
      obtain rfl : a = .string d.name := by simpa using h0
      have s := setAll_append ys [.string d.name, u, x] ([.string d.name, b, c'] ++ xs0.drop ((k + 1) * 3)) 0
      rw [setAll_head [.string d.name, u, x] [.string d.name, b, c'] (xs0.drop ((k + 1) * 3)) rfl, Nat.add_zero, hyl'] at s
      rw [List.append_assoc, ← s]
      show _ = (((ys ++ ([.string d.name, b, c'] ++ xs0.drop ((k + 1) * 3))).set (k * 3) (.string d.name)).set (k * 3 + 1) u).set (k * 3 + 2) x
      have e0 : (ys ++ ([.string d.name, b, c'] ++ xs0.drop ((k + 1) * 3))).set (k * 3) (.string d.name) = ys ++ ([.string d.name, b, c'] ++ xs0.drop ((k + 1) * 3)) := by
        rw [List.set_append_right (k * 3) (Value.string d.name) (by omega), hyl', Nat.sub_self]
        rfl
      rw [e0]
  rw [hx] at o2
  refine ⟨?_, ?_, hs _ (by decide) _ _ _ h.q, hs _ (by decide) _ _ _ h.r, o2, ?_, h.t.same (hs _ (by decide)), h.dd.snoc hyl' (fun i y b hy hb2 => by
    have h1 := h.o.flt i y b hy hb2
    intro h2
    have := (a5.lt b h2).1
    omega)⟩
  · exact ((h.b.trans (hb.mono h.b.size)).setCell (p := ⟨gb, _, none⟩) hgb _).setCell (p := ⟨gb, _, none⟩) hgb _
  · have := hb.size
    simp [World.setCell]; omega
  · rw [take_snoc hd]
    exact (h.o.same (hs _ (by decide)) (hs _ (by decide))).snoc h1 a2 ((a3.same (hs2 _ (by decide))).mono (by omega)) a4 ((a5.same (hs2 _ (by decide))).mono (by omega))
end Go.Proofs.YthefofclbepkoaaDoor

/- Contract: index.OwnSchema. -/
namespace Go.Proofs.YthefofclbepkoaaDoor
open Go Go.RowKit



theorem clone_bnds_info : (Tryd.prog.info? 77).map (fun i => (i.zero, i.size, i.bytes)) = some (some (.agg #[.string .empty, .string .empty, .string .empty, .int .i64 0, .int .i64 0]), 5, 64) := by kernel_rfl
theorem clone_strs_info : (Tryd.prog.info? 9).map (fun i => (i.zero, i.size, i.bytes)) = some (some (.string .empty), 1, 16) := by kernel_rfl
theorem clone_flds_info : (Tryd.prog.info? 80).map (fun i => (i.zero, i.size, i.bytes)) = some (some (.agg #[.string .empty, .int .i64 0, .bool false, .bool false]), 4, 32) := by kernel_rfl
theorem clonec_knds_info : (Tryd.prog.info? 42).map (fun i => (i.zero, i.size, i.bytes)) = some (some (.agg #[.string .empty, .slice none 0 0, .slice none 0 0]), 3, 64) := by kernel_rfl
set_option maxHeartbeats 2000000 in
theorem clonec_knds {w : World} {A : Option Addr} {n c : Nat} {xs : List Value} (hlen : xs.length = n * 3) (h1 : ∀ u ∈ xs, u.oneCell' = true) (hx : 0 < n → ∃ b o, A = some ⟨b, o, none⟩ ∧ ∀ j u, xs[j]? = some u → w.cell? ⟨b, o + j, none⟩ = some u) (hl : n ≤ 1048576) :
    Calls Tryd.prog 139 #[.slice A n c] w fun e w' => ∃ u, e = .returned u ∧ Own w' w.heap.size 42 3 u n xs ∧ Below w.heap.size w w' := by
  obtain ⟨i0, ei, ez, ez1, ez2⟩ := info_parts clonec_knds_info
  have q22 : ∀ (w : World) (a : Option Addr) (n c n' c' : Nat), (binOp .eql 22 (.slice a n c) (.slice none n' c')).run Tryd.prog w = .ok (.bool a.isNone) w := fun w a n c n' c' => Lib.run_eql_slice_nil w _ _ a n c n' c' Tryd.underlying22
  cases A with
  | none =>
    have h0 : n = 0 := by
      rcases Nat.eq_zero_or_pos n with h | h
      · exact h
      · obtain ⟨_, _, hA, _⟩ := hx h; cases hA
    subst h0
    have hx0 : xs = [] := List.eq_nil_of_length_eq_zero (by rw [hlen, Nat.zero_mul])
    subst hx0
    clear hx hlen h1
    go_enter Tryd.func139, Tryd.ntmps139
    go_wp2_with fail
    go_ret
    exact ⟨_, rfl, Own.nil _ _ _ _, Below.refl _ _⟩
  | some a =>
    have hX : Hid (0 < n → ∃ b o, (some a : Option Addr) = some ⟨b, o, none⟩ ∧ ∀ j u, xs[j]? = some u → w.cell? ⟨b, o + j, none⟩ = some u) := hx
    have hL := Lib.hid hlen
    have h1H := Lib.hid h1
    clear hx hlen h1
    go_enter Tryd.func139, Tryd.ntmps139
    go_wp2_with (at_builtin; refine wpList_append_q _ rfl (.tmp 5) (.tmp 6) 22 rfl w.heap.size 42 i0 (.agg #[.string .empty, .slice none 0 0, .slice none 0 0]) 3 64 Tryd.underlying22 ei ez ez1 ez2 rfl (by decide) (.slice (some ⟨w.heap.size, 0, none⟩) 0 0) 0 [] rfl Own.made (some a) n c xs rfl hL.out (fun hp => by
        obtain ⟨b, o, hA, hy⟩ := hX.out hp
        exact ⟨_, hA, fun j u hj => by rw [addr_add]; exact cell_below ((Below.refl _ _).alloc (Nat.le_refl _) _) (hy j u hj)⟩) h1H.out (by unfold maxLen; omega) (by omega) (by simp) ?_; intro v7 w7 hown7 hg7 hat7)
    have hb7 : Below w.heap.size w w7 := ((Below.refl _ _).alloc (Nat.le_refl _) _).grown hg7 (by simp) (fun k hk => Nat.le_of_eq (by simpa [Value.ownBlock] using hk))
    simp only [Nat.zero_add, List.nil_append] at hown7
    clear hg7 hat7
    go_ret
    exact ⟨_, rfl, hown7, hb7⟩
end Go.Proofs.YthefofclbepkoaaDoor

/- Contracts: change.field, change.add. -/
namespace Go.Proofs.YthefofclbepkoaaDoor
open Go Go.RowKit


def cpos (fs : List Fld) (nm : ByteArray) : Nat := lowI (fldC nm) fs
def chas (fs : List Fld) (nm : ByteArray) : Bool := eqAt (fldC nm) fs (cpos fs nm)
theorem OwnKnds.get {w : World} {B : Nat} : ∀ {l : List Knd} {xs : List Value} {i : Nat} {d : Knd}, OwnKnds w B l xs → l[i]? = some d →
    ∃ u x, xs[i * 3]? = some (.string d.name) ∧ xs[i * 3 + 1]? = some u ∧ xs[i * 3 + 2]? = some x ∧ Sm d.name ∧ (∀ p ∈ d.ofs, Sm p) ∧ Own w B 9 1 u d.ofs.length (d.ofs.map Value.string) ∧ (∀ p ∈ d.fields, p.ok) ∧ Own w B 80 4 x d.fields.length (d.fields.flatMap Fld.enc)
  | [], xs, i, d, h, hi => by simp at hi
  | e :: l, xs, 0, d, h, hi => by
    simp at hi
    subst hi
    obtain ⟨u, x, ys, rfl, a1, a2, a3, a4, a5, _⟩ := h
    exact ⟨u, x, rfl, rfl, rfl, a1, a2, a3, a4, a5⟩
  | e :: l, xs, i + 1, d, h, hi => by
    obtain ⟨u, x, ys, rfl, _, _, _, _, _, a6⟩ := h
    obtain ⟨u', x', b1, b2, b3, hr⟩ := OwnKnds.get a6 (by simpa using hi)
    have e1 : (i + 1) * 3 = i * 3 + 1 + 1 + 1 := by omega
    have e2 : (i + 1) * 3 + 1 = i * 3 + 1 + 1 + 1 + 1 := by omega
    have e3 : (i + 1) * 3 + 2 = i * 3 + 2 + 1 + 1 + 1 := by omega
    exact ⟨u', x', by rw [e1]; exact b1, by rw [e2]; exact b2, by rw [e3]; exact b3, hr⟩
/-- Another row of fields in the place of one: what is read of the other rows lies where it lay. -/
theorem OwnKnds.put {w w' : World} {B : Nat} {fs : List Fld} {v : Value} (h1 : Same 9 w w') (hk : ∀ p ∈ fs, p.ok) (ho : Own w' B 80 4 v fs.length (fs.flatMap Fld.enc)) :
    ∀ {l : List Knd} {xs : List Value} {i : Nat} {d : Knd}, OwnKnds w B l xs → l[i]? = some d → (∀ j e x n ys, j ≠ i → l[j]? = some e → xs[j * 3 + 2]? = some x → Own w B 80 4 x n ys → Own w' B 80 4 x n ys) →
    OwnKnds w' B (l.set i ⟨d.name, d.ofs, fs⟩) (xs.set (i * 3 + 2) v)
  | [], xs, i, d, h, hi, _ => by simp at hi
  | e :: l, xs, 0, d, h, hi, hoth => by
    simp at hi
    subst hi
    obtain ⟨u, x, ys, rfl, a1, a2, a3, a4, a5, a6⟩ := h
    refine ⟨u, v, ys, rfl, a1, a2, a3.same h1, hk, ho, ?_⟩
    have : ∀ {l : List Knd} {ys : List Value}, OwnKnds w B l ys → (∀ j e x n zs, l[j]? = some e → ys[j * 3 + 2]? = some x → Own w B 80 4 x n zs → Own w' B 80 4 x n zs) → OwnKnds w' B l ys := by
      intro l
      induction l with
      | nil => intro ys h _; exact h
      | cons e l ih =>
        intro ys h hh
        obtain ⟨u, x, zs, rfl, b1, b2, b3, b4, b5, b6⟩ := h
        exact ⟨u, x, zs, rfl, b1, b2, b3.same h1, b4, hh 0 e x _ _ rfl rfl b5, ih b6 (fun j e' x' n zs' hj hx => hh (j + 1) e' x' n zs' (by simpa using hj) (by rw [show (j + 1) * 3 + 2 = j * 3 + 2 + 1 + 1 + 1 by omega]; exact hx))⟩
    exact this a6 (fun j e' x' n zs' hj hx => hoth (j + 1) e' x' n zs' (by omega) (by simpa using hj) (by rw [show (j + 1) * 3 + 2 = j * 3 + 2 + 1 + 1 + 1 by omega]; exact hx))
  | e :: l, xs, i + 1, d, h, hi, hoth => by
    obtain ⟨u, x, ys, rfl, a1, a2, a3, a4, a5, a6⟩ := h
    have e3 : (i + 1) * 3 + 2 = i * 3 + 2 + 1 + 1 + 1 := by omega
    rw [e3]
    exact ⟨u, x, ys.set (i * 3 + 2) v, rfl, a1, a2, a3.same h1, a4, hoth 0 e x _ _ (by omega) rfl rfl a5, OwnKnds.put h1 hk ho a6 (by simpa using hi) (fun j e' x' n zs' hj hx hxx => hoth (j + 1) e' x' n zs' (by omega) (by simpa using hx) (by rw [show (j + 1) * 3 + 2 = j * 3 + 2 + 1 + 1 + 1 by omega]; exact hxx))⟩
end Go.Proofs.YthefofclbepkoaaDoor

/- Plain: the fields of one kind of an owned schema are others. -/
namespace Go.Proofs.YthefofclbepkoaaDoor
open Go Go.RowKit

def setF (s : Scm) (i : Nat) (d : Knd) (fs : List Fld) : Scm := ⟨s.kinds.set i ⟨d.name, d.ofs, fs⟩, s.bonds⟩
theorem field_put {Wx W5 : World} {B gb o ck i : Nat} {vb x u5 : Value} {s : Scm} {d : Knd} {xs : List Value} {fs : List Fld}
    (hS : OwnS Wx B (.slice (some ⟨gb, o, none⟩) s.kinds.length ck) vb s xs) (hd : s.kinds[i]? = some d) (hx : xs[i * 3 + 2]? = some x)
    (ho : Own W5 B 80 4 u5 fs.length (fs.flatMap Fld.enc)) (hg : Wx.grownBy W5 x.ownBlock) (hat : u5.ownBlock = x.ownBlock ∨ ∃ k, u5.ownBlock = some k ∧ Wx.heap.size ≤ k) (hok : ∀ p ∈ fs, p.ok) :
    OwnS (W5.setCell ⟨gb, o + i * 3 + 2, none⟩ u5) B (.slice (some ⟨gb, o, none⟩) s.kinds.length ck) vb (setF s i d fs) (xs.set (i * 3 + 2) u5) ∧
      (∀ T, 80 ≠ T → 42 ≠ T → Same T Wx (W5.setCell ⟨gb, o + i * 3 + 2, none⟩ u5)) ∧ W5.frozen? ⟨gb, o + i * 3 + 2, none⟩ = false ∧ W5.cell? ⟨gb, o + i * 3 + 2, none⟩ = some x ∧ B ≤ gb := by
  obtain ⟨_, x', _, _, k2, _, _, _, _, ox⟩ := hS.o.get hd
  obtain rfl := Option.some.inj (hx.symm.trans k2)
  have hil := (List.getElem?_eq_some_iff.1 hd).1
  have hSk : ∀ T, 80 ≠ T → Same T Wx W5 := fun T hT => Same.grown ox hT hg
  have n5 := hS.n.same (hSk _ (by decide))
  have hset : ∀ T, 42 ≠ T → Same T W5 (W5.setCell ⟨gb, o + i * 3 + 2, none⟩ u5) := fun T hT => Same.cellOf n5 hT _ _
  have hdist : ∀ (j : Nat) (y : Value) (b : Nat), j ≠ i → xs[j * 3 + 2]? = some y → y.ownBlock = some b → x.ownBlock ≠ some b := fun j y b hji hy hb hxb => by
    rcases Nat.lt_or_ge j i with h | h
    · exact hS.d j i y x b h hy hx hb hxb
    · exact hS.d i j x y b (by omega) hx hy hxb hb
  refine ⟨⟨?_, ?_, (hS.b.same (hSk _ (by decide))).same (hset _ (by decide)), hS.k, hS.d.put fun j y b hji hy hb => ?_⟩, fun T h1 h2 => (hSk T h1).trans (hset T h2), n5.frozen rfl _, n5.cell (j := i * 3 + 2) rfl hx, (n5.lt gb rfl).1⟩
  · have := n5.store (i * 3 + 2) (by omega) u5
    show Own _ B 42 3 _ (s.kinds.set i ⟨d.name, d.ofs, fs⟩).length _
    rw [List.length_set]
    exact this
  · refine (OwnKnds.put (hSk _ (by decide)) hok ho hS.o hd (fun j e y n ys hji _ hy hoy => ?_)).same (hset _ (by decide)) (hset _ (by decide))
    refine hoy.grown hg ?_
    cases hyb : y.ownBlock with
    | none => exact .inl rfl
    | some b => exact .inr (fun e => hdist j y b hji hy hyb e.symm)
  · rcases hat with h | ⟨k, h, hk⟩
    · rw [h]; exact hdist j y b hji hy hb
    · rw [h]
      intro e
      injection e with e
      subst e
      have := hS.o.flt j y _ hy hb
      omega
end Go.Proofs.YthefofclbepkoaaDoor

/- Contract: change.add. -/
namespace Go.Proofs.YthefofclbepkoaaDoor
open Go Go.RowKit


def addE (fs : List Fld) (f : Fld) (v : Val) : Int :=
  if chas fs f.name then 7 else if f.key = true ∨ (f.must = true ∧ v.ty = 0) then 3 else if v.ty = 0 then 0 else if valE v = 0 then (if v.ty = f.ty then 0 else 8) else valE v
def addF (fs : List Fld) (f : Fld) : List Fld := fs.take (cpos fs f.name) ++ f :: fs.drop (cpos fs f.name)
/-- What comes of a change of one kind's fields. -/
def RetKF (B : Nat) (vk vb : Value) (s : Scm) (err : Int) (w : World) (e : Ending) (w' : World) : Prop :=
  e = .returned (errV err) ∧ (err = 0 → ∃ xs, OwnS w' B vk vb s xs) ∧ Below B w w' ∧ Same 25 w w' ∧ w.heap.size ≤ w'.heap.size
end Go.Proofs.YthefofclbepkoaaDoor
