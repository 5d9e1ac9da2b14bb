/- Parts: CloN, Numb, GrO, OwnS. -/
import Derived.Test.YtldmofffogjlkaaDoorMg13
import Derived.Test.YtldmofffogjlkaaDoorMg01
import Derived.Test.YtldmofffogjlkaaDoorRows
import Derived.Deep.RegionLaw
import Derived.Test.YtldmofffogjlkaaDoorMg11
import Derived.Test.YtldmofffogjlkaaDoorMg12
/- Contracts: slices.Clone at nodes and at ties, graph.OwnNode, graph.Own. -/
namespace Go.Proofs.YtldmofffogjlkaaDoor
open Go Go.RowKit



theorem clone_nods_info : (Tryd.prog.info? 62).map (fun i => (i.zero, i.size, i.bytes)) = some (some (.agg #[.int .i64 0, .string .empty, .slice none 0 0]), 3, 48) := by kernel_rfl
theorem clone_ties_info : (Tryd.prog.info? 105).map (fun i => (i.zero, i.size, i.bytes)) = some (some (.agg #[.string .empty, .int .i64 0, .int .i64 0]), 3, 32) := by kernel_rfl
set_option maxHeartbeats 1000000 in
theorem ownNode_any (n : Nod) (v : Value) (w : World) (hv : Sl prpL w v n.props) (hl : n.props.length ≤ 1048576) :
    Calls Tryd.prog 61 #[.agg #[.int .i64 n.id, .string n.kind, v]] w fun e w' => ∃ u, e = .returned (.agg #[.int .i64 n.id, .string n.kind, u]) ∧ OwnP w' w.heap.size u n.props ∧ Below w.heap.size w w' := by
  have hb0 : Below w.heap.size w ((w.alloc (.cells #[.int .i64 n.id, .string n.kind, v] 62)).alloc (.cells #[.int .i64 0, .string .empty, .slice none 0 0] 62)) := ((Below.refl _ _).alloc (Nat.le_refl _) _).alloc (by simp) _
  have hcl := clone_prps (hv.below hb0) hl
  have g0 : ((w.alloc (.cells #[.int .i64 n.id, .string n.kind, v] 62)).alloc (.cells #[.int .i64 0, .string .empty, .slice none 0 0] 62)).heap[w.heap.size]? = some (.cells #[.int .i64 n.id, .string n.kind, v] 62 (0, 0)) := by
    rw [Below.heap_alloc _ _ _ (by simp)]; exact heap_alloc_new _ _
  have g1 : ((w.alloc (.cells #[.int .i64 n.id, .string n.kind, v] 62)).alloc (.cells #[.int .i64 0, .string .empty, .slice none 0 0] 62)).heap[w.heap.size + 1]? = some (.cells #[.int .i64 0, .string .empty, .slice none 0 0] 62 (0, 0)) := by
    have := heap_alloc_new (w.alloc (.cells #[.int .i64 n.id, .string n.kind, v] 62)) (.cells #[.int .i64 0, .string .empty, .slice none 0 0] 62); simpa using this
  have x0 := block_cell g0 0
  have x1 := block_cell g0 1
  have x2 := block_cell g0 2
  have hsz : ((w.alloc (.cells #[.int .i64 n.id, .string n.kind, v] 62)).alloc (.cells #[.int .i64 0, .string .empty, .slice none 0 0] 62)).heap.size = w.heap.size + 2 := by simp
  obtain ⟨A, c, rfl, _, _⟩ := hv.form
  clear hv
  go_enter Tryd.func61, Tryd.ntmps61
  go_wp2_with fail
  refine hcl.mono ?_
  clear hcl
  rintro e w2 ⟨u, xs, rfl, hown, hrow, hb2⟩
  obtain ⟨rfl, hok⟩ := Row.flat hrow
  have hown := Own.mono (B' := w.heap.size) hown (by rw [hsz]; omega)
  have HK := Lib.hid hok
  have g2 := (hb2.block _ (Array.getElem?_eq_some_iff.1 g0).1).trans g0
  have g3 := (hb2.block _ (Array.getElem?_eq_some_iff.1 g1).1).trans g1
  have y0 := block_cell g2 0
  have y1 := block_cell g2 1
  have y2 := block_cell g2 2
  have y3 := block_cell g3 0
  have y4 := block_cell g3 1
  have y5 := block_cell g3 2
  have f2 := block_free g2 2
  have f3 := block_free g3 0
  have f4 := block_free g3 1
  have f5 := block_free g3 2
  have hB2 := hb0.trans (hb2.mono hb0.size)
  have HO : Hid (∀ W, Same 129 w2 W → OwnP W w.heap.size u n.props) := fun W hs => ⟨Own.same hown hs, HK.out⟩
  obtain ⟨A2, c2, rfl, _, _⟩ := hown.form
  have hsame : ∀ W : World, W = ((((w2.setCell ⟨w.heap.size, 2, none⟩ (.slice A2 n.props.length c2)).setCell ⟨w.heap.size + 1, 0, none⟩ (.int .i64 n.id)).setCell ⟨w.heap.size + 1, 1, none⟩ (.string n.kind)).setCell ⟨w.heap.size + 1, 2, none⟩ (.slice A2 n.props.length c2)) → Same 129 w2 W := by
    rintro W rfl
    have k0 := setCell_block g2 2 (.slice A2 n.props.length c2)
    have s0 := Same.setCell (T := 129) (p := ⟨w.heap.size, 2, none⟩) g2 (by decide) (.slice A2 n.props.length c2)
    have k1 : (w2.setCell ⟨w.heap.size, 2, none⟩ (.slice A2 n.props.length c2)).heap[w.heap.size + 1]? = some (.cells #[.int .i64 0, .string .empty, .slice none 0 0] 62 (0, 0)) := by rw [Below.heap_setCell _ _ _ _ (by simp)]; exact g3
    have s1 := Same.setCell (T := 129) (p := ⟨w.heap.size + 1, 0, none⟩) k1 (by decide) (.int .i64 n.id)
    have k2 := setCell_block k1 0 (.int .i64 n.id)
    have s2 := Same.setCell (T := 129) (p := ⟨w.heap.size + 1, 1, none⟩) k2 (by decide) (.string n.kind)
    have k3 := setCell_block k2 1 (.string n.kind)
    have s3 := Same.setCell (T := 129) (p := ⟨w.heap.size + 1, 2, none⟩) k3 (by decide) (.slice A2 n.props.length c2)
    exact s0.trans (s1.trans (s2.trans s3))
  have HS := Lib.hid hsame
  have G3 := Lib.hid g3
  clear hown hrow hok g0 g1 g2 g3 x0 x1 x2 hsame
  go_wp2_with fail
  have h3 : ((((w2.setCell ⟨w.heap.size, 2, none⟩ (.slice A2 n.props.length c2)).setCell ⟨w.heap.size + 1, 0, none⟩ (.int .i64 n.id)).setCell ⟨w.heap.size + 1, 1, none⟩ (.string n.kind)).setCell ⟨w.heap.size + 1, 2, none⟩ (.slice A2 n.props.length c2)).heap[w.heap.size + 1]? = some (.cells #[.int .i64 n.id, .string n.kind, .slice A2 n.props.length c2] 62 (0, 0)) := by
    have k1 : (w2.setCell ⟨w.heap.size, 2, none⟩ (.slice A2 n.props.length c2)).heap[w.heap.size + 1]? = some (.cells #[.int .i64 0, .string .empty, .slice none 0 0] 62 (0, 0)) := by rw [Below.heap_setCell _ _ _ _ (by simp)]; exact G3.out
    exact setCell_block (setCell_block (setCell_block k1 0 (.int .i64 n.id)) 1 (.string n.kind)) 2 (.slice A2 n.props.length c2)
  have k2 := block_cell h3 0
  have k3 := block_cell h3 1
  have k4 := block_cell h3 2
  exact bodyPost_ret (v := .agg #[.int .i64 n.id, .string n.kind, .slice A2 n.props.length c2]) (by simp [results, Tryd.results61, go_sem, k2, k3, k4]) rfl ⟨_, rfl, HO.out _ (HS.out _ rfl), (((hB2.setCell (p := ⟨w.heap.size, 2, none⟩) (Nat.le_refl _) _).setCell (p := ⟨w.heap.size + 1, 0, none⟩) (by show w.heap.size ≤ w.heap.size + 1; omega) _).setCell (p := ⟨w.heap.size + 1, 1, none⟩) (by show w.heap.size ≤ w.heap.size + 1; omega) _).setCell (p := ⟨w.heap.size + 1, 2, none⟩) (by show w.heap.size ≤ w.heap.size + 1; omega) _⟩
end Go.Proofs.YtldmofffogjlkaaDoor

/- Plain: a step of a region that draws, by a contract; the contract of kinlaw4.number. -/
namespace Go.Proofs.YtldmofffogjlkaaDoor
open Go Go.RowKit

/-- A step of a region that draws, as it stands. -/
theorem step_here {P : Program} {ops : Array Oper} {o : Oper} {a : Act} {w : World} {K : Act → World → Prop} {Q : Exit → Act → World → Prop} {E : Prop} (hg : o.guard = none) (h : Oper.wp P o a w K Q) :
    if Region.wanted o (yielded ops a.tmps) = true then Oper.wp P o a w K Q else E := by
  rw [if_pos (by simp [Region.wanted, hg])]; exact h
/-- A call at a step of a region that draws. -/
theorem step_call {P : Program} {ops : Array Oper} {o : Oper} {a : Act} {w : World} {K : Act → World → Prop} {Q : Exit → Act → World → Prop} {E : Prop} (hg : o.guard = none) (g : Nat) (vs : Array Value)
    (hr : (execOp a.eval o).run P w = .ok (.enter g vs) w) (u : Value) {R : World → Prop}
    (h : Calls P g vs w fun e w' => e = .returned u ∧ R w') (hk : ∀ w', R w' → K (a.put o.dst u) w') :
    if Region.wanted o (yielded ops a.tmps) = true then Oper.wp P o a w K Q else E := by
  rw [if_pos (by simp [Region.wanted, hg])]
  unfold Oper.wp
  rw [hr, Oper.upon_enter]
  exact h.mono fun e w' ⟨he, hR⟩ => by subst he; exact hk w' hR
/-- .. whatever it answers. -/
theorem step_callx {P : Program} {ops : Array Oper} {o : Oper} {a : Act} {w : World} {K : Act → World → Prop} {Q : Exit → Act → World → Prop} {E : Prop} (hg : o.guard = none) (g : Nat) (vs : Array Value)
    (hr : (execOp a.eval o).run P w = .ok (.enter g vs) w) {R : Ending → World → Prop}
    (h : Calls P g vs w R) (hk : ∀ e w', R e w' → ∃ u, e = .returned u ∧ K (a.put o.dst u) w') :
    if Region.wanted o (yielded ops a.tmps) = true then Oper.wp P o a w K Q else E := by
  rw [if_pos (by simp [Region.wanted, hg])]
  unfold Oper.wp
  rw [hr, Oper.upon_enter]
  exact h.mono fun e w' hR => by
    obtain ⟨u, rfl, hK⟩ := hk e w' hR
    exact hK
theorem number_any (n : Int) (w : World) : Calls Tryd.prog 72 #[.int .i64 n] w fun e w' => e = .returned (.agg #[.int .i64 1, .int .i64 n, .string .empty]) ∧ Below w.heap.size w w' := by
  go_enter Tryd.func72, Tryd.ntmps72
  go_wp2_with fail
  exact bodyPost_ret (v := .agg #[.int .i64 1, .int .i64 n, .string .empty]) (by simp [results, Tryd.results72, go_sem]; rfl) rfl ⟨rfl, (Below.refl _ _).alloc (Nat.le_refl _) _⟩
end Go.Proofs.YtldmofffogjlkaaDoor

/- Contract: graph.Own. -/
namespace Go.Proofs.YtldmofffogjlkaaDoor
open Go Go.RowKit

theorem Same.cellOf {T e : TypeId} {w : World} {B sz g o n c : Nat} {xs : List Value} (h : Own w B e sz (.slice (some ⟨g, o, none⟩) n c) n xs) (hne : e ≠ T) (j : Nat) (u : Value) : Same T w (w.setCell ⟨g, j, none⟩ u) := by
  rcases h.2 with ⟨h0, _⟩ | ⟨g', o', cap, cur, hv, hb, hg, _⟩
  · cases h0
  · injection hv with e1 _ _
    injection e1 with e1
    injection e1 with e1 e2
    subst e1
    exact Same.setCell (p := ⟨g, j, none⟩) hg hne u
/-- What stands between two rounds: the first k nodes have records of the call's own. -/
structure OwnI (w wr : World) (g : Grf) (xs0 : List Value) (vn vt : Value) (k : Nat) (ys : List Value) : Prop where
  b : Below w.heap.size w wr
  z : w.heap.size + 2 ≤ wr.heap.size
  q : wr.heap[w.heap.size]? = some (.cells #[vn, vt] 56 (0, 0))
  r : wr.heap[w.heap.size + 1]? = some (.cells #[.slice none 0 0, .slice none 0 0] 56 (0, 0))
  n : Own wr w.heap.size 62 3 vn g.nodes.length (ys ++ xs0.drop (k * 3))
  o : OwnNods wr w.heap.size (g.nodes.take k) ys
  t : Own wr w.heap.size 105 3 vt g.ties.length (g.ties.flatMap Tie.enc)
theorem OwnI.step {w wr w2 : World} {g : Grf} {xs0 ys : List Value} {gb o c : Nat} {vt u : Value} {k : Nat} {d : Nod} (h : OwnI w wr g xs0 (.slice (some ⟨gb, o, none⟩) g.nodes.length c) vt k ys) (hd : g.nodes[k]? = some d) (h1 : I64 d.id) (h2 : Sm d.kind)
    (hlen : xs0.length = g.nodes.length * 3) (hb : Below wr.heap.size wr w2) (hu : OwnP w2 wr.heap.size u d.props) :
    OwnI w (((w2.setCell ⟨gb, o + k * 3, none⟩ (.int .i64 d.id)).setCell ⟨gb, o + k * 3 + 1, none⟩ (.string d.kind)).setCell ⟨gb, o + k * 3 + 2, none⟩ u) g xs0 (.slice (some ⟨gb, o, none⟩) g.nodes.length c) vt (k + 1) (ys ++ [.int .i64 d.id, .string d.kind, u]) := by
  have hkl := (List.getElem?_eq_some_iff.1 hd).1
  have hz := h.z
  have hyl := h.o.len
  have hyl' : ys.length = k * 3 := by rw [hyl, List.length_take, Nat.min_eq_left (by omega)]
  have o0 := h.n.below hb
  have o1 := o0.store (k * 3) (by omega) (.int .i64 d.id)
  have o2 := o1.store (k * 3 + 1) (by omega) (.string d.kind)
  have o3 := o2.store (k * 3 + 2) (by omega) u
  have hs : ∀ T, 62 ≠ T → Same T wr (((w2.setCell ⟨gb, o + k * 3, none⟩ (.int .i64 d.id)).setCell ⟨gb, o + k * 3 + 1, none⟩ (.string d.kind)).setCell ⟨gb, o + k * 3 + 2, none⟩ u) := fun T hT =>
    (Same.below hb).trans ((Same.cellOf o0 hT _ _).trans ((Same.cellOf o1 hT _ _).trans (Same.cellOf o2 hT _ _)))
  have hs2 : ∀ T, 62 ≠ T → Same T w2 (((w2.setCell ⟨gb, o + k * 3, none⟩ (.int .i64 d.id)).setCell ⟨gb, o + k * 3 + 1, none⟩ (.string d.kind)).setCell ⟨gb, o + k * 3 + 2, none⟩ u) := fun T hT =>
    (Same.cellOf o0 hT _ _).trans ((Same.cellOf o1 hT _ _).trans (Same.cellOf o2 hT _ _))
  have hgb := (o0.lt gb rfl).1
  have hx : ((((ys ++ xs0.drop (k * 3)).set (k * 3) (.int .i64 d.id)).set (k * 3 + 1) (.string d.kind)).set (k * 3 + 2) u) = ys ++ [.int .i64 d.id, .string d.kind, u] ++ xs0.drop ((k + 1) * 3) := by
    have e : xs0.drop (k * 3) = (xs0.drop (k * 3)).take 3 ++ xs0.drop ((k + 1) * 3) := by
      rw [show (k + 1) * 3 = k * 3 + 3 by omega, ← List.drop_drop, List.take_append_drop]
    have hl3 : ((xs0.drop (k * 3)).take 3).length = 3 := by rw [List.length_take, List.length_drop]; omega
    rw [e]
    generalize (xs0.drop (k * 3)).take 3 = Z at *
    match Z, hl3 with
    | [a, b, c'], _ =>
      have s := setAll_append ys [.int .i64 d.id, .string d.kind, u] ([a, b, c'] ++ xs0.drop ((k + 1) * 3)) 0
      rw [setAll_head [.int .i64 d.id, .string d.kind, u] [a, b, c'] (xs0.drop ((k + 1) * 3)) rfl, Nat.add_zero, hyl'] at s
      rw [List.append_assoc]
      exact s
  rw [hx] at o3
  refine ⟨?_, ?_, hs _ (by decide) _ _ _ h.q, hs _ (by decide) _ _ _ h.r, ?_, ?_, h.t.same (hs _ (by decide))⟩
  · exact (((h.b.trans (hb.mono h.b.size)).setCell (p := ⟨gb, _, none⟩) hgb _).setCell (p := ⟨gb, _, none⟩) hgb _).setCell (p := ⟨gb, _, none⟩) hgb _
  · have := hb.size
    simp [World.setCell]; omega
  · exact o3
  · rw [take_snoc hd]
    exact (h.o.same (hs _ (by decide))).snoc h1 h2 hu.2 ((hu.1.same (hs2 _ (by decide))).mono (by omega))
end Go.Proofs.YtldmofffogjlkaaDoor

/- Contract: index.OwnSchema; schemas that a call owns. -/
namespace Go.Proofs.YtldmofffogjlkaaDoor
open Go Go.RowKit

/-- Kinds of which each one's lists are the call's own. -/
def OwnKnds (w : World) (B : Nat) : List Knd → List Value → Prop
  | [], xs => xs = []
  | d :: l, xs => ∃ u x ys, xs = [.string d.name, u, x] ++ ys ∧ Sm d.name ∧ (∀ p ∈ d.ofs, Sm p) ∧ Own w B 9 1 u d.ofs.length (d.ofs.map Value.string) ∧ (∀ p ∈ d.fields, p.ok) ∧ Own w B 38 4 x d.fields.length (d.fields.flatMap Fld.enc) ∧ OwnKnds w B l ys
theorem OwnKnds.same {w w' : World} {B : Nat} (h1 : Same 9 w w') (h2 : Same 38 w w') : ∀ {l : List Knd} {xs : List Value}, OwnKnds w B l xs → OwnKnds w' B l xs
  | [], _, h => h
  | _ :: _, _, h => by
    obtain ⟨u, x, ys, rfl, a1, a2, a3, a4, a5, a6⟩ := h
    exact ⟨u, x, ys, rfl, a1, a2, a3.same h1, a4, a5.same h2, a6.same h1 h2⟩
theorem OwnKnds.snoc {w : World} {B : Nat} {d : Knd} {u x : Value} (a1 : Sm d.name) (a2 : ∀ p ∈ d.ofs, Sm p) (a3 : Own w B 9 1 u d.ofs.length (d.ofs.map Value.string)) (a4 : ∀ p ∈ d.fields, p.ok) (a5 : Own w B 38 4 x d.fields.length (d.fields.flatMap Fld.enc)) :
    ∀ {l : List Knd} {xs : List Value}, OwnKnds w B l xs → OwnKnds w B (l ++ [d]) (xs ++ [.string d.name, u, x])
  | [], xs, h => by rw [show xs = [] from h]; exact ⟨u, x, [], by simp, a1, a2, a3, a4, a5, rfl⟩
  | e :: l, xs, h => by
    obtain ⟨v, y, ys, rfl, b1, b2, b3, b4, b5, b6⟩ := h
    exact ⟨v, y, ys ++ [.string d.name, u, x], by simp, b1, b2, b3, b4, b5, b6.snoc a1 a2 a3 a4 a5⟩
theorem OwnKnds.len {w : World} {B : Nat} : ∀ {l : List Knd} {xs : List Value}, OwnKnds w B l xs → xs.length = l.length * 3
  | [], xs, h => by rw [show xs = [] from h]; rfl
  | d :: l, xs, h => by
    obtain ⟨u, x, ys, rfl, _, _, _, _, _, h6⟩ := h
    have := h6.len
    simp only [List.length_append, List.length_cons, List.length_nil, this]
    omega
theorem OwnKnds.row {w : World} {B : Nat} : ∀ {l : List Knd} {xs : List Value}, OwnKnds w B l xs → Row kndL w l xs
  | [], _, h => h
  | _ :: _, _, h => by
    obtain ⟨u, x, ys, rfl, a1, a2, a3, a4, a5, a6⟩ := h
    exact ⟨_, ys, rfl, ⟨u, x, rfl, a1, Own.strs a2 a3, a5.flds a4⟩, a6.row⟩
theorem OwnKnds.append {w : World} {B : Nat} : ∀ {l m : List Knd} {xs ys : List Value}, OwnKnds w B l xs → OwnKnds w B m ys → OwnKnds w B (l ++ m) (xs ++ ys)
  | [], m, xs, ys, h, k => by rw [show xs = [] from h]; exact k
  | d :: l, m, xs, ys, h, k => by
    obtain ⟨u, x, zs, rfl, a1, a2, a3, a4, a5, a6⟩ := h
    exact ⟨u, x, zs ++ ys, by simp, a1, a2, a3, a4, a5, a6.append k⟩
/-- No two kinds have their fields in one block. -/
def FDist (xs : List Value) : Prop := ∀ (i j : Nat) (x y : Value) (b : Nat), i < j → xs[i * 3 + 2]? = some x → xs[j * 3 + 2]? = some y → x.ownBlock = some b → y.ownBlock ≠ some b
theorem FDist.nil : FDist [] := fun i j x y b _ h => by simp at h
theorem FDist.snoc {ys : List Value} {k : Nat} {a u x : Value} (h : FDist ys) (hl : ys.length = k * 3) (hn : ∀ (i : Nat) (y : Value) (b : Nat), ys[i * 3 + 2]? = some y → y.ownBlock = some b → x.ownBlock ≠ some b) : FDist (ys ++ [a, u, x]) := by
  intro i j y z b hij hi hj hb
  have hjl : j * 3 + 2 < (ys ++ [a, u, x]).length := (List.getElem?_eq_some_iff.1 hj).1
  rw [List.length_append, hl] at hjl
  simp only [List.length_cons, List.length_nil] at hjl
  have hil : i * 3 + 2 < ys.length := by omega
  rw [List.getElem?_append_left hil] at hi
  by_cases hjk : j < k
  · rw [List.getElem?_append_left (by omega)] at hj
    exact h i j y z b hij hi hj hb
  · obtain rfl : j = k := by omega
    rw [List.getElem?_append_right (by omega), hl, show j * 3 + 2 - j * 3 = 2 by omega] at hj
    simp at hj
    subst hj
    exact hn i y b hi hb
theorem FDist.put {xs : List Value} {k : Nat} {v : Value} (h : FDist xs) (hn : ∀ (i : Nat) (y : Value) (b : Nat), i ≠ k → xs[i * 3 + 2]? = some y → y.ownBlock = some b → v.ownBlock ≠ some b) : FDist (xs.set (k * 3 + 2) v) := by
  intro i j y z b hij hi hj hb
  rw [List.getElem?_set] at hi hj
  by_cases e1 : k = i
  · subst e1
    rw [if_pos rfl] at hi
    rw [if_neg (by omega)] at hj
    split at hi
    · simp at hi; subst hi
      intro hz
      exact hn j z b (by omega) hj hz hb
    · cases hi
  · rw [if_neg (by omega)] at hi
    by_cases e2 : k = j
    · subst e2
      rw [if_pos rfl] at hj
      split at hj
      · simp at hj; subst hj
        exact hn i y b (fun e => e1 e.symm) hi hb
      · cases hj
    · rw [if_neg (by omega)] at hj
      exact h i j y z b hij hi hj hb
theorem OwnKnds.flt {w : World} {B : Nat} : ∀ {l : List Knd} {xs : List Value}, OwnKnds w B l xs → ∀ (i : Nat) (y : Value) (b : Nat), xs[i * 3 + 2]? = some y → y.ownBlock = some b → b < w.heap.size
  | [], xs, h, i, y, b, hi, _ => by rw [show xs = [] from h] at hi; simp at hi
  | e :: l, xs, h, 0, y, b, hi, hb => by
    obtain ⟨u, x, ys, rfl, _, _, _, _, a5, _⟩ := h
    simp at hi
    subst hi
    exact (a5.lt b hb).2
  | e :: l, xs, h, i + 1, y, b, hi, hb => by
    obtain ⟨u, x, ys, rfl, _, _, _, _, _, a6⟩ := h
    rw [show (i + 1) * 3 + 2 = i * 3 + 2 + 1 + 1 + 1 by omega] at hi
    exact OwnKnds.flt a6 i y b hi hb
/-- A schema that is the call's own. -/
structure OwnS (w : World) (B : Nat) (vk vb : Value) (s : Scm) (xs : List Value) : Prop where
  n : Own w B 34 3 vk s.kinds.length xs
  o : OwnKnds w B s.kinds xs
  b : Own w B 36 5 vb s.bonds.length (s.bonds.flatMap Bnd.enc)
  k : ∀ x ∈ s.bonds, x.ok
  d : FDist xs
theorem OwnS.r {w : World} {B : Nat} {vk vb : Value} {s : Scm} {xs : List Value} (h : OwnS w B vk vb s xs) : ScmR w vk vb s := ⟨Own.row (L := kndL) h.n h.o.row, Own.bnds h.b h.k⟩
theorem OwnS.below {w w' : World} {B : Nat} {vk vb : Value} {s : Scm} {xs : List Value} (h : OwnS w B vk vb s xs) (hb : Below w.heap.size w w') : OwnS w' B vk vb s xs := ⟨h.n.below hb, h.o.same (.below hb) (.below hb), h.b.below hb, h.k, h.d⟩
theorem OwnS.same {w w' : World} {B : Nat} {vk vb : Value} {s : Scm} {xs : List Value} (h : OwnS w B vk vb s xs) (h1 : Same 34 w w') (h2 : Same 9 w w') (h3 : Same 38 w w') (h4 : Same 36 w w') : OwnS w' B vk vb s xs :=
  ⟨h.n.same h1, h.o.same h2 h3, h.b.same h4, h.k, h.d⟩
/-- What stands between two rounds: the first k kinds have lists of the call's own. -/
structure OwnSI (w wr : World) (s : Scm) (xs0 : List Value) (vk vb : Value) (k : Nat) (ys : List Value) : Prop where
  b : Below w.heap.size w wr
  z : w.heap.size + 2 ≤ wr.heap.size
  q : wr.heap[w.heap.size]? = some (.cells #[vk, vb] 25 (0, 0))
  r : wr.heap[w.heap.size + 1]? = some (.cells #[.slice none 0 0, .slice none 0 0] 25 (0, 0))
  n : Own wr w.heap.size 34 3 vk s.kinds.length (ys ++ xs0.drop (k * 3))
  o : OwnKnds wr w.heap.size (s.kinds.take k) ys
  t : Own wr w.heap.size 36 5 vb s.bonds.length (s.bonds.flatMap Bnd.enc)
  dd : FDist ys
theorem OwnSI.step {w wr w2 : World} {s : Scm} {xs0 ys : List Value} {gb o c : Nat} {vb u x : Value} {k : Nat} {d : Knd} (h : OwnSI w wr s xs0 (.slice (some ⟨gb, o, none⟩) s.kinds.length c) vb k ys) (hd : s.kinds[k]? = some d) (h1 : Sm d.name)
    (hlen : xs0.length = s.kinds.length * 3) (hx0 : xs0[k * 3]? = some (.string d.name)) (hb : Below wr.heap.size wr w2) (a2 : ∀ p ∈ d.ofs, Sm p) (a3 : Own w2 wr.heap.size 9 1 u d.ofs.length (d.ofs.map Value.string)) (a4 : ∀ p ∈ d.fields, p.ok) (a5 : Own w2 wr.heap.size 38 4 x d.fields.length (d.fields.flatMap Fld.enc)) :
    OwnSI w ((w2.setCell ⟨gb, o + k * 3 + 1, none⟩ u).setCell ⟨gb, o + k * 3 + 2, none⟩ x) s xs0 (.slice (some ⟨gb, o, none⟩) s.kinds.length c) vb (k + 1) (ys ++ [.string d.name, u, x]) := by
  have hkl := (List.getElem?_eq_some_iff.1 hd).1
  have hz := h.z
  have hyl := h.o.len
  have hyl' : ys.length = k * 3 := by rw [hyl, List.length_take, Nat.min_eq_left (by omega)]
  have o0 := h.n.below hb
  have o1 := o0.store (k * 3 + 1) (by omega) u
  have o2 := o1.store (k * 3 + 2) (by omega) x
  have hs2 : ∀ T, 34 ≠ T → Same T w2 ((w2.setCell ⟨gb, o + k * 3 + 1, none⟩ u).setCell ⟨gb, o + k * 3 + 2, none⟩ x) := fun T hT =>
    (Same.cellOf o0 hT _ _).trans (Same.cellOf o1 hT _ _)
  have hs : ∀ T, 34 ≠ T → Same T wr ((w2.setCell ⟨gb, o + k * 3 + 1, none⟩ u).setCell ⟨gb, o + k * 3 + 2, none⟩ x) := fun T hT => (Same.below hb).trans (hs2 T hT)
  have hgb := (o0.lt gb rfl).1
  have hx : (((ys ++ xs0.drop (k * 3)).set (k * 3 + 1) u).set (k * 3 + 2) x) = ys ++ [.string d.name, u, x] ++ xs0.drop ((k + 1) * 3) := by
    have e : xs0.drop (k * 3) = (xs0.drop (k * 3)).take 3 ++ xs0.drop ((k + 1) * 3) := by
      rw [show (k + 1) * 3 = k * 3 + 3 by omega, ← List.drop_drop, List.take_append_drop]
    have hl3 : ((xs0.drop (k * 3)).take 3).length = 3 := by rw [List.length_take, List.length_drop]; omega
    have h0 : ((xs0.drop (k * 3)).take 3)[0]? = some (.string d.name) := by rw [List.getElem?_take]; simp; simpa using hx0
    rw [e]
    generalize (xs0.drop (k * 3)).take 3 = Z at *
    match Z, hl3, h0 with
    | [a, b, c'], _, h0 =>
      obtain rfl : a = .string d.name := by simpa using h0
      have s := setAll_append ys [.string d.name, u, x] ([.string d.name, b, c'] ++ xs0.drop ((k + 1) * 3)) 0
      rw [setAll_head [.string d.name, u, x] [.string d.name, b, c'] (xs0.drop ((k + 1) * 3)) rfl, Nat.add_zero, hyl'] at s
      rw [List.append_assoc, ← s]
      show _ = (((ys ++ ([.string d.name, b, c'] ++ xs0.drop ((k + 1) * 3))).set (k * 3) (.string d.name)).set (k * 3 + 1) u).set (k * 3 + 2) x
      have e0 : (ys ++ ([.string d.name, b, c'] ++ xs0.drop ((k + 1) * 3))).set (k * 3) (.string d.name) = ys ++ ([.string d.name, b, c'] ++ xs0.drop ((k + 1) * 3)) := by
        rw [List.set_append_right (k * 3) (Value.string d.name) (by omega), hyl', Nat.sub_self]
        rfl
      rw [e0]
  rw [hx] at o2
  refine ⟨?_, ?_, hs _ (by decide) _ _ _ h.q, hs _ (by decide) _ _ _ h.r, o2, ?_, h.t.same (hs _ (by decide)), h.dd.snoc hyl' (fun i y b hy hb2 => by
    have h1 := h.o.flt i y b hy hb2
    intro h2
    have := (a5.lt b h2).1
    omega)⟩
  · exact ((h.b.trans (hb.mono h.b.size)).setCell (p := ⟨gb, _, none⟩) hgb _).setCell (p := ⟨gb, _, none⟩) hgb _
  · have := hb.size
    simp [World.setCell]; omega
  · rw [take_snoc hd]
    exact (h.o.same (hs _ (by decide)) (hs _ (by decide))).snoc h1 a2 ((a3.same (hs2 _ (by decide))).mono (by omega)) a4 ((a5.same (hs2 _ (by decide))).mono (by omega))
end Go.Proofs.YtldmofffogjlkaaDoor
