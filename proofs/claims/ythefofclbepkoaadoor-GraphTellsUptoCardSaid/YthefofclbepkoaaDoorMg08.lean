/- Parts: DeltaP, CloN, GNode, DelA. -/
import Derived.Test.YthefofclbepkoaaDoorMg04
import Derived.Test.YthefofclbepkoaaDoorMg07
import Derived.Test.YthefofclbepkoaaDoorMg06
import Derived.Test.YthefofclbepkoaaDoorMg01
import Derived.Maps.AppendAt
/- Plain: what an op makes of a graph; graphs that a call owns. -/
namespace Go.Proofs.YthefofclbepkoaaDoor
open Go Go.RowKit

structure Opr where
  what : Int
  node : Nod
  prop : Prp
  tie : Tie
def unsetE (r : List Prp) (nm : ByteArray) : Int := if recE r = 0 then (if rhas r nm then 0 else 5) else recE r
def unsetR (r : List Prp) (nm : ByteArray) : List Prp := if unsetE r nm = 0 then r.take (rpos r nm) ++ r.drop (rpos r nm + 1) else []
def bornE (g : Grf) (n : Nod) : Int := if nodE n = 0 then (if fhas g.nodes n.id then 7 else if 60 ≤ g.nodes.length then 4 else 0) else nodE n
def bornG (g : Grf) (n : Nod) : Grf := ⟨g.nodes.take (fpos g.nodes n.id) ++ n :: g.nodes.drop (fpos g.nodes n.id), g.ties⟩
def touch (id : Int) (t : Tie) : Bool := t.src == id || t.dst == id
def goneG (g : Grf) (id : Int) : Grf := ⟨g.nodes.take (fpos g.nodes id) ++ g.nodes.drop (fpos g.nodes id + 1), g.ties.filter fun t => !touch id t⟩
def recAt (l : List Nod) (id : Int) : List Prp := match l[fpos l id]? with | some n => n.props | none => []
def putRec (l : List Nod) (k : Nat) (r : List Prp) : List Nod := match l[k]? with | some n => l.set k ⟨n.id, n.kind, r⟩ | none => l
def opE (g : Grf) (o : Opr) : Int :=
  if o.what = 1 then bornE g o.node
  else if o.what = 2 then (if fhas g.nodes o.node.id then 0 else 5)
  else if o.what = 3 then (if fhas g.nodes o.node.id then setE (recAt g.nodes o.node.id) o.prop else 5)
  else if o.what = 4 then (if fhas g.nodes o.node.id then unsetE (recAt g.nodes o.node.id) o.prop.name else 5)
  else if o.what = 5 then (if tieE o.tie = 0 then (if thas g.ties o.tie then 7 else if 120 ≤ g.ties.length then 4 else 0) else tieE o.tie)
  else if o.what = 6 then (if thas g.ties o.tie then 0 else 5)
  else 1
def opG (g : Grf) (o : Opr) : Grf :=
  if o.what = 1 then bornG g o.node
  else if o.what = 2 then goneG g o.node.id
  else if o.what = 3 then ⟨putRec g.nodes (fpos g.nodes o.node.id) (setR (recAt g.nodes o.node.id) o.prop), g.ties⟩
  else if o.what = 4 then ⟨putRec g.nodes (fpos g.nodes o.node.id) (unsetR (recAt g.nodes o.node.id) o.prop.name), g.ties⟩
  else if o.what = 5 then ⟨g.nodes, g.ties.take (tpos g.ties o.tie) ++ o.tie :: g.ties.drop (tpos g.ties o.tie)⟩
  else if o.what = 6 then ⟨g.nodes, g.ties.take (tpos g.ties o.tie) ++ g.ties.drop (tpos g.ties o.tie + 1)⟩
  else g
/-- What delta.Do answers. -/
def doE (g : Grf) (o : Opr) : Int := if grfE g = 0 then opE g o else grfE g
def doG (g : Grf) (o : Opr) : Grf := if doE g o = 0 then opG g o else ⟨[], []⟩

theorem OwnNods.len {w : World} {B : Nat} : ∀ {l : List Nod} {xs : List Value}, OwnNods w B l xs → xs.length = l.length * 3
  | [], xs, h => by rw [show xs = [] from h]; rfl
  | d :: l, xs, h => by
    obtain ⟨u, ys, rfl, _, _, _, _, h5⟩ := h
    have := h5.len
    simp only [List.length_append, List.length_cons, List.length_nil, this]
    omega
theorem OwnNods.append {w : World} {B : Nat} : ∀ {l m : List Nod} {xs ys : List Value}, OwnNods w B l xs → OwnNods w B m ys → OwnNods w B (l ++ m) (xs ++ ys)
  | [], m, xs, ys, h, k => by rw [show xs = [] from h]; exact k
  | d :: l, m, xs, ys, h, k => by
    obtain ⟨u, zs, rfl, h1, h2, h3, h4, h5⟩ := h
    exact ⟨u, zs ++ ys, by simp, h1, h2, h3, h4, h5.append k⟩
theorem OwnNods.split {w : World} {B : Nat} : ∀ {l : List Nod} {xs : List Value} (i : Nat), i ≤ l.length → OwnNods w B l xs → OwnNods w B (l.take i) (xs.take (i * 3)) ∧ OwnNods w B (l.drop i) (xs.drop (i * 3))
  | l, xs, 0, _, h => by simp only [List.take_zero, Nat.zero_mul, List.drop_zero]; exact ⟨rfl, h⟩
  | [], xs, i + 1, hi, h => by simp at hi
  | d :: l, xs, i + 1, hi, h => by
    obtain ⟨u, ys, rfl, h1, h2, h3, h4, h5⟩ := h
    obtain ⟨k1, k2⟩ := h5.split i (by simpa using hi)
    have e : (i + 1) * 3 = i * 3 + 1 + 1 + 1 := by omega
    rw [e]
    exact ⟨⟨u, ys.take (i * 3), rfl, h1, h2, h3, h4, k1⟩, k2⟩
theorem OwnNods.one {w : World} {B : Nat} {d : Nod} {u : Value} (h1 : I64 d.id) (h2 : Sm d.kind) (h3 : ∀ p ∈ d.props, p.ok) (h4 : Own w B 107 4 u d.props.length (d.props.flatMap Prp.enc)) :
    OwnNods w B [d] [.int .i64 d.id, .string d.kind, u] := ⟨u, [], rfl, h1, h2, h3, h4, rfl⟩
theorem OwnNods.drop1 {w : World} {B : Nat} {l : List Nod} {xs : List Value} (i : Nat) (hi : i < l.length) (h : OwnNods w B l xs) : OwnNods w B (l.take i ++ l.drop (i + 1)) (xs.take (i * 3) ++ xs.drop ((i + 1) * 3)) :=
  (h.split i (by omega)).1.append (h.split (i + 1) (by omega)).2
theorem OwnNods.insert {w : World} {B : Nat} {l : List Nod} {xs : List Value} {d : Nod} {u : Value} (i : Nat) (hi : i ≤ l.length) (h : OwnNods w B l xs) (h1 : I64 d.id) (h2 : Sm d.kind) (h3 : ∀ p ∈ d.props, p.ok) (h4 : Own w B 107 4 u d.props.length (d.props.flatMap Prp.enc)) :
    OwnNods w B (l.take i ++ d :: l.drop i) (xs.take (i * 3) ++ [.int .i64 d.id, .string d.kind, u] ++ xs.drop (i * 3)) := by
  have := ((h.split i hi).1.append (OwnNods.one h1 h2 h3 h4)).append (h.split i hi).2
  rw [show l.take i ++ d :: l.drop i = l.take i ++ [d] ++ l.drop i by simp]
  exact this
theorem OwnNods.oneCell {w : World} {B : Nat} {l : List Nod} {xs : List Value} (h : OwnNods w B l xs) : ∀ u ∈ xs, u.oneCell' = true := h.row.oneCell one_nod
theorem OwnNods.get {w : World} {B : Nat} {l : List Nod} {xs : List Value} {i : Nat} {d : Nod} (h : OwnNods w B l xs) (hi : l[i]? = some d) :
    ∃ u, xs[i * 3]? = some (.int .i64 d.id) ∧ xs[i * 3 + 1]? = some (.string d.kind) ∧ xs[i * 3 + 2]? = some u ∧ I64 d.id ∧ Sm d.kind ∧ (∀ p ∈ d.props, p.ok) ∧ Own w B 107 4 u d.props.length (d.props.flatMap Prp.enc) := by
  have hil := (List.getElem?_eq_some_iff.1 hi).1
  have h2 := (h.split i (by omega)).2
  rw [drop_cons hi] at h2
  obtain ⟨u, ys, he, h1, h3, h4, h5, _⟩ := h2
  have hx : ∀ j, xs[i * 3 + j]? = (xs.drop (i * 3))[j]? := fun j => (List.getElem?_drop ..).symm
  refine ⟨u, ?_, ?_, ?_, h1, h3, h4, h5⟩
  · have := hx 0; rw [Nat.add_zero] at this; rw [this, he]; rfl
  · rw [hx 1, he]; rfl
  · rw [hx 2, he]; rfl
theorem OwnNods.put {w : World} {B : Nat} {r : List Prp} {v : Value} (h3 : ∀ p ∈ r, p.ok) (h4 : Own w B 107 4 v r.length (r.flatMap Prp.enc)) : ∀ {l : List Nod} {xs : List Value} {i : Nat} {d : Nod}, OwnNods w B l xs → l[i]? = some d → OwnNods w B (l.set i ⟨d.id, d.kind, r⟩) (xs.set (i * 3 + 2) v)
  | [], xs, i, d, h, hi => by simp at hi
  | e :: l, xs, 0, d, h, hi => by
    simp at hi
    subst hi
    obtain ⟨u, ys, rfl, h1, h2, _, _, h5⟩ := h
    exact ⟨v, ys, rfl, h1, h2, h3, h4, h5⟩
  | e :: l, xs, i + 1, d, h, hi => by
    obtain ⟨u, ys, rfl, h1, h2, k3, k4, h5⟩ := h
    have ih := OwnNods.put h3 h4 h5 (by simpa using hi)
    have e : (i + 1) * 3 + 2 = i * 3 + 2 + 1 + 1 + 1 := by omega
    rw [e]
    exact ⟨u, ys.set (i * 3 + 2) v, rfl, h1, h2, k3, k4, ih⟩
/-- A graph that is the call's own. -/
structure OwnG (w : World) (B : Nat) (vn vt : Value) (g : Grf) (xs : List Value) : Prop where
  n : Own w B 56 3 vn g.nodes.length xs
  o : OwnNods w B g.nodes xs
  t : Own w B 102 3 vt g.ties.length (g.ties.flatMap Tie.enc)
  k : ∀ x ∈ g.ties, x.ok
theorem OwnG.r {w : World} {B : Nat} {vn vt : Value} {g : Grf} {xs : List Value} (h : OwnG w B vn vt g xs) : GrfR w vn vt g := ⟨Own.nods h.n h.o, Own.ties h.t h.k⟩
theorem OwnG.below {w w' : World} {B : Nat} {vn vt : Value} {g : Grf} {xs : List Value} (h : OwnG w B vn vt g xs) (hb : Below w.heap.size w w') : OwnG w' B vn vt g xs := ⟨h.n.below hb, h.o.same (.below hb), h.t.below hb, h.k⟩
theorem OwnG.same {w w' : World} {B : Nat} {vn vt : Value} {g : Grf} {xs : List Value} (h : OwnG w B vn vt g xs) (h1 : Same 56 w w') (h2 : Same 107 w w') (h3 : Same 102 w w') : OwnG w' B vn vt g xs :=
  ⟨h.n.same h1, h.o.same h2, h.t.same h3, h.k⟩
theorem OwnG.mono {w : World} {B B' : Nat} {vn vt : Value} {g : Grf} {xs : List Value} (h : OwnG w B vn vt g xs) (hB : B' ≤ B) : OwnG w B' vn vt g xs := by
  refine ⟨h.n.mono hB, ?_, h.t.mono hB, h.k⟩
  have : ∀ {l : List Nod} {ys : List Value}, OwnNods w B l ys → OwnNods w B' l ys := by
    intro l
    induction l with
    | nil => intro ys h; exact h
    | cons d l ih =>
      intro ys h
      obtain ⟨u, zs, rfl, h1, h2, h3, h4, h5⟩ := h
      exact ⟨u, zs, rfl, h1, h2, h3, h4.mono hB, ih h5⟩
  exact this h.o
theorem OwnG.nil {w : World} {B : Nat} : OwnG w B (.slice none 0 0) (.slice none 0 0) ⟨[], []⟩ [] := ⟨Own.nil _ _ _ _, rfl, Own.nil _ _ _ _, fun x hx => by cases hx⟩
/-- A graph and an error. -/
def RetG (g : Grf) (err : Int) (w : World) (e : Ending) (w' : World) : Prop := ∃ vn vt, e = .returned (.tuple #[.agg #[vn, vt], errV err]) ∧ GrfR w' vn vt g ∧ Below w.heap.size w w'
/-- No block that was there has turned, but those of two slices. -/
structure Keep2 (w w' : World) (a b : Value) : Prop where
  s : w.heap.size ≤ w'.heap.size
  k : ∀ k, k < w.heap.size → some k ≠ a.ownBlock → some k ≠ b.ownBlock → w'.heap[k]? = w.heap[k]?
theorem Keep2.below {w w' : World} {a b : Value} (hb : Below w.heap.size w w') : Keep2 w w' a b := ⟨hb.size, fun k hk _ _ => hb.block k hk⟩
theorem Keep2.then {w w1 w2 : World} {a b : Value} (h : Keep2 w w1 a b) (hb : Below w1.heap.size w1 w2) : Keep2 w w2 a b :=
  ⟨Nat.le_trans h.s hb.size, fun k hk h1 h2 => (hb.block k (Nat.lt_of_lt_of_le hk h.s)).trans (h.k k hk h1 h2)⟩
theorem Keep2.grown1 {w w1 w2 : World} {a b : Value} (h : Keep2 w w1 a b) (hg : w1.grownBy w2 a.ownBlock) : Keep2 w w2 a b :=
  ⟨Nat.le_trans h.s hg.size, fun k hk h1 h2 => (hg.block k (Nat.lt_of_lt_of_le hk h.s) h1).trans (h.k k hk h1 h2)⟩
theorem Keep2.grown2 {w w1 w2 : World} {a b : Value} (h : Keep2 w w1 a b) (hg : w1.grownBy w2 b.ownBlock) : Keep2 w w2 a b :=
  ⟨Nat.le_trans h.s hg.size, fun k hk h1 h2 => (hg.block k (Nat.lt_of_lt_of_le hk h.s) h2).trans (h.k k hk h1 h2)⟩
theorem own_len (A : Option Addr) (n n' c : Nat) : (Value.slice A n c).ownBlock = (Value.slice A n' c).ownBlock := by cases A <;> rfl
theorem Keep2.grown1' {w w1 w2 : World} {A : Option Addr} {n n' c : Nat} {b : Value} (h : Keep2 w w1 (.slice A n c) b) (hg : w1.grownBy w2 (Value.slice A n' c).ownBlock) : Keep2 w w2 (.slice A n c) b := h.grown1 (by rw [own_len A n n' c]; exact hg)
theorem Keep2.grown2' {w w1 w2 : World} {A : Option Addr} {n n' c : Nat} {a : Value} (h : Keep2 w w1 a (.slice A n c)) (hg : w1.grownBy w2 (Value.slice A n' c).ownBlock) : Keep2 w w2 a (.slice A n c) := h.grown2 (by rw [own_len A n n' c]; exact hg)
theorem Keep2.box {w w1 : World} {a b : Value} (h : Keep2 w w1 a b) {p : Addr} (hp : w.heap.size ≤ p.block) (u : Value) : Keep2 w (w1.setCell p u) a b :=
  ⟨by have := h.s; simp [World.setCell]; omega, fun k hk h1 h2 => (Below.heap_setCell _ _ _ _ (by omega)).trans (h.k k hk h1 h2)⟩
theorem Keep2.own {w w1 : World} {a b : Value} (h : Keep2 w w1 a b) {p : Addr} (hp : a.ownBlock = some p.block) (u : Value) : Keep2 w (w1.setCell p u) a b :=
  ⟨by have := h.s; simp [World.setCell]; omega, fun k hk h1 h2 => (Below.heap_setCell _ _ _ _ (fun e => h1 (by rw [hp, e]))).trans (h.k k hk h1 h2)⟩
/-- What comes of an op on an owned graph: the new one is owned too, if there is no fault. -/
def RetOG (B : Nat) (a b : Value) (g : Grf) (err : Int) (w : World) (e : Ending) (w' : World) : Prop :=
  ∃ vn vt, e = .returned (.tuple #[.agg #[vn, vt], errV err]) ∧ (err = 0 → ∃ xs, OwnG w' B vn vt g xs) ∧ (∃ A n c A' n' c', vn = .slice A n c ∧ vt = .slice A' n' c') ∧ Below B w w' ∧ Keep2 w w' a b
end Go.Proofs.YthefofclbepkoaaDoor

/- Contracts: slices.Clone at nodes and at ties, graph.OwnNode, graph.Own. -/
namespace Go.Proofs.YthefofclbepkoaaDoor
open Go Go.RowKit



theorem clone_nods_info : (Tryd.prog.info? 56).map (fun i => (i.zero, i.size, i.bytes)) = some (some (.agg #[.int .i64 0, .string .empty, .slice none 0 0]), 3, 48) := by kernel_rfl
theorem clone_ties_info : (Tryd.prog.info? 102).map (fun i => (i.zero, i.size, i.bytes)) = some (some (.agg #[.string .empty, .int .i64 0, .int .i64 0]), 3, 32) := by kernel_rfl
set_option maxHeartbeats 1000000 in
theorem ownNode_any (n : Nod) (v : Value) (w : World) (hv : Sl prpL w v n.props) (hl : n.props.length ≤ 1048576) :
    Calls Tryd.prog 62 #[.agg #[.int .i64 n.id, .string n.kind, v]] w fun e w' => ∃ u, e = .returned (.agg #[.int .i64 n.id, .string n.kind, u]) ∧ OwnP w' w.heap.size u n.props ∧ Below w.heap.size w w' := by
  have hb0 : Below w.heap.size w ((w.alloc (.cells #[.int .i64 n.id, .string n.kind, v] 56)).alloc (.cells #[.int .i64 0, .string .empty, .slice none 0 0] 56)) := ((Below.refl _ _).alloc (Nat.le_refl _) _).alloc (by simp) _
  have hcl := clone_prps (hv.below hb0) hl
  have g0 : ((w.alloc (.cells #[.int .i64 n.id, .string n.kind, v] 56)).alloc (.cells #[.int .i64 0, .string .empty, .slice none 0 0] 56)).heap[w.heap.size]? = some (.cells #[.int .i64 n.id, .string n.kind, v] 56 (0, 0)) := by
    rw [Below.heap_alloc _ _ _ (by simp)]; exact heap_alloc_new _ _
  have g1 : ((w.alloc (.cells #[.int .i64 n.id, .string n.kind, v] 56)).alloc (.cells #[.int .i64 0, .string .empty, .slice none 0 0] 56)).heap[w.heap.size + 1]? = some (.cells #[.int .i64 0, .string .empty, .slice none 0 0] 56 (0, 0)) := by
    have := heap_alloc_new (w.alloc (.cells #[.int .i64 n.id, .string n.kind, v] 56)) (.cells #[.int .i64 0, .string .empty, .slice none 0 0] 56); simpa using this
  have x0 := block_cell g0 0
  have x1 := block_cell g0 1
  have x2 := block_cell g0 2
  have hsz : ((w.alloc (.cells #[.int .i64 n.id, .string n.kind, v] 56)).alloc (.cells #[.int .i64 0, .string .empty, .slice none 0 0] 56)).heap.size = w.heap.size + 2 := by simp
  obtain ⟨A, c, rfl, _, _⟩ := hv.form
  clear hv
  go_enter Tryd.func62, Tryd.ntmps62
  go_wp2_with fail
  refine hcl.mono ?_
  clear hcl
  rintro e w2 ⟨u, xs, rfl, hown, hrow, hb2⟩
  obtain ⟨rfl, hok⟩ := Row.flat hrow
  have hown := Own.mono (B' := w.heap.size) hown (by rw [hsz]; omega)
  have HK := Lib.hid hok
  have g2 := (hb2.block _ (Array.getElem?_eq_some_iff.1 g0).1).trans g0
  have g3 := (hb2.block _ (Array.getElem?_eq_some_iff.1 g1).1).trans g1
  have y0 := block_cell g2 0
  have y1 := block_cell g2 1
  have y2 := block_cell g2 2
  have y3 := block_cell g3 0
  have y4 := block_cell g3 1
  have y5 := block_cell g3 2
  have f2 := block_free g2 2
  have f3 := block_free g3 0
  have f4 := block_free g3 1
  have f5 := block_free g3 2
  have hB2 := hb0.trans (hb2.mono hb0.size)
  have HO : Hid (∀ W, Same 107 w2 W → OwnP W w.heap.size u n.props) := fun W hs => ⟨Own.same hown hs, HK.out⟩
  obtain ⟨A2, c2, rfl, _, _⟩ := hown.form
  have hsame : ∀ W : World, W = ((((w2.setCell ⟨w.heap.size, 2, none⟩ (.slice A2 n.props.length c2)).setCell ⟨w.heap.size + 1, 0, none⟩ (.int .i64 n.id)).setCell ⟨w.heap.size + 1, 1, none⟩ (.string n.kind)).setCell ⟨w.heap.size + 1, 2, none⟩ (.slice A2 n.props.length c2)) → Same 107 w2 W := by
    rintro W rfl
    have k0 := setCell_block g2 2 (.slice A2 n.props.length c2)
    have s0 := Same.setCell (T := 107) (p := ⟨w.heap.size, 2, none⟩) g2 (by decide) (.slice A2 n.props.length c2)
    have k1 : (w2.setCell ⟨w.heap.size, 2, none⟩ (.slice A2 n.props.length c2)).heap[w.heap.size + 1]? = some (.cells #[.int .i64 0, .string .empty, .slice none 0 0] 56 (0, 0)) := by rw [Below.heap_setCell _ _ _ _ (by simp)]; exact g3
    have s1 := Same.setCell (T := 107) (p := ⟨w.heap.size + 1, 0, none⟩) k1 (by decide) (.int .i64 n.id)
    have k2 := setCell_block k1 0 (.int .i64 n.id)
    have s2 := Same.setCell (T := 107) (p := ⟨w.heap.size + 1, 1, none⟩) k2 (by decide) (.string n.kind)
    have k3 := setCell_block k2 1 (.string n.kind)
    have s3 := Same.setCell (T := 107) (p := ⟨w.heap.size + 1, 2, none⟩) k3 (by decide) (.slice A2 n.props.length c2)
    exact s0.trans (s1.trans (s2.trans s3))
  have HS := Lib.hid hsame
  have G3 := Lib.hid g3
  clear hown hrow hok g0 g1 g2 g3 x0 x1 x2 hsame
  go_wp2_with fail
  have h3 : ((((w2.setCell ⟨w.heap.size, 2, none⟩ (.slice A2 n.props.length c2)).setCell ⟨w.heap.size + 1, 0, none⟩ (.int .i64 n.id)).setCell ⟨w.heap.size + 1, 1, none⟩ (.string n.kind)).setCell ⟨w.heap.size + 1, 2, none⟩ (.slice A2 n.props.length c2)).heap[w.heap.size + 1]? = some (.cells #[.int .i64 n.id, .string n.kind, .slice A2 n.props.length c2] 56 (0, 0)) := by
    have k1 : (w2.setCell ⟨w.heap.size, 2, none⟩ (.slice A2 n.props.length c2)).heap[w.heap.size + 1]? = some (.cells #[.int .i64 0, .string .empty, .slice none 0 0] 56 (0, 0)) := by rw [Below.heap_setCell _ _ _ _ (by simp)]; exact G3.out
    exact setCell_block (setCell_block (setCell_block k1 0 (.int .i64 n.id)) 1 (.string n.kind)) 2 (.slice A2 n.props.length c2)
  have k2 := block_cell h3 0
  have k3 := block_cell h3 1
  have k4 := block_cell h3 2
  exact bodyPost_ret (v := .agg #[.int .i64 n.id, .string n.kind, .slice A2 n.props.length c2]) (by simp [results, Tryd.results62, go_sem, k2, k3, k4]) rfl ⟨_, rfl, HO.out _ (HS.out _ rfl), (((hB2.setCell (p := ⟨w.heap.size, 2, none⟩) (Nat.le_refl _) _).setCell (p := ⟨w.heap.size + 1, 0, none⟩) (by show w.heap.size ≤ w.heap.size + 1; omega) _).setCell (p := ⟨w.heap.size + 1, 1, none⟩) (by show w.heap.size ≤ w.heap.size + 1; omega) _).setCell (p := ⟨w.heap.size + 1, 2, none⟩) (by show w.heap.size ≤ w.heap.size + 1; omega) _⟩
end Go.Proofs.YthefofclbepkoaaDoor

/- Contract: graph.Node. -/
namespace Go.Proofs.YthefofclbepkoaaDoor
open Go Go.RowKit

def zeroN : Nod := ⟨0, .empty, []⟩
def nodeE (g : Grf) (id : Int) : Int := if grfE g = 0 then (if fhas g.nodes id then 0 else 5) else grfE g
def nodeR (g : Grf) (id : Int) : Nod := if nodeE g id = 0 then (g.nodes[fpos g.nodes id]?).getD zeroN else zeroN
theorem nod_rec2 {n : Nod} (h : nodE n = 0) : recE n.props = 0 := by
  unfold nodE at h
  split at h
  · omega
  · split at h
    · exact h
    · rename_i h2; exact absurd h h2
/-- A node and an error. -/
def RetN (n : Nod) (err : Int) (w : World) (e : Ending) (w' : World) : Prop := ∃ u, e = .returned (.tuple #[.agg #[.int .i64 n.id, .string n.kind, u], errV err]) ∧ Sl prpL w' u n.props ∧ Below w.heap.size w w'
set_option maxRecDepth 100000 in
set_option maxHeartbeats 8000000 in
theorem gnode_any (g : Grf) (id : Int) (vn vt : Value) (w : World) (hG : GrfR w vn vt g) :
    Calls Tryd.prog 21 #[.agg #[vn, vt], .int .i64 id] w (RetN (nodeR g id) (nodeE g id) w) := by
  obtain ⟨An, cn, rfl, _, _⟩ := hG.1.form
  obtain ⟨At, ct, rfl, _, _⟩ := hG.2.form
  have hb0 : Below w.heap.size w ((w.alloc (.cells #[.slice An g.nodes.length cn, .slice At g.ties.length ct] 47)).alloc (.cells #[.int .i64 0, .string ⟨#[]⟩, .slice none 0 0] 56)) := ((Below.refl _ _).alloc (Nat.le_refl _) _).alloc (by simp) _
  have g0 : ((w.alloc (.cells #[.slice An g.nodes.length cn, .slice At g.ties.length ct] 47)).alloc (.cells #[.int .i64 0, .string ⟨#[]⟩, .slice none 0 0] 56)).heap[w.heap.size]? = some (.cells #[.slice An g.nodes.length cn, .slice At g.ties.length ct] 47 (0, 0)) := by
    rw [Below.heap_alloc _ _ _ (by simp)]; exact heap_alloc_new _ _
  have g1 : ((w.alloc (.cells #[.slice An g.nodes.length cn, .slice At g.ties.length ct] 47)).alloc (.cells #[.int .i64 0, .string ⟨#[]⟩, .slice none 0 0] 56)).heap[w.heap.size + 1]? = some (.cells #[.int .i64 0, .string ⟨#[]⟩, .slice none 0 0] 56 (0, 0)) := by
    have := heap_alloc_new (w.alloc (.cells #[.slice An g.nodes.length cn, .slice At g.ties.length ct] 47)) (.cells #[.int .i64 0, .string ⟨#[]⟩, .slice none 0 0] 56); simpa using this
  generalize hW0 : ((w.alloc (.cells #[.slice An g.nodes.length cn, .slice At g.ties.length ct] 47)).alloc (.cells #[.int .i64 0, .string ⟨#[]⟩, .slice none 0 0] 56)) = W0 at *
  have HG := Lib.hid (hG.below hb0)
  have hck := grfCheck_any g _ _ W0 (hG.below hb0)
  have x0 := block_cell g0 0
  have x1 := block_cell g0 1
  have HNE : Hid (nodeE g id = if grfE g = 0 then (if fhas g.nodes id then 0 else 5) else grfE g) := rfl
  have HNR : Hid (nodeR g id = if nodeE g id = 0 then (g.nodes[fpos g.nodes id]?).getD zeroN else zeroN) := rfl
  clear hG
  go_enter Tryd.func21, Tryd.ntmps21
  go_wp2_with fail
  refine hck.mono ?_
  clear hck
  rintro e w1 ⟨rfl, hb1⟩
  have hB1 := hb0.trans (hb1.mono hb0.size)
  have m0 := (hb1.block _ (Array.getElem?_eq_some_iff.1 g0).1).trans g0
  have m1 := (hb1.block _ (Array.getElem?_eq_some_iff.1 g1).1).trans g1
  clear g0 g1 x0 x1
  by_cases he : grfE g = 0
  case neg =>
    have HF : Hid (errV (nodeE g id) = .iface 83 (.int .i64 (grfE g)) ∧ nodeR g id = zeroN) := by
      have h0 : nodeE g id = grfE g := by rw [HNE.out, if_neg he]
      exact ⟨by rw [h0]; exact errV_some he, by rw [HNR.out, h0, if_neg he]⟩
    have hB := hB1
    rw [errV_some he]
    clear he HNE HNR hB1 m0
    have e0 := block_free m1 0
    have e1 := block_free m1 1
    have e2 := block_free m1 2
    have e3 := block_cell m1 0
    have e4 := block_cell m1 1
    have e5 := block_cell m1 2
    have k3 := setCell_block (setCell_block (setCell_block m1 0 (.int .i64 0)) 1 (.string ⟨#[]⟩)) 2 (.slice none 0 0)
    have HM := Lib.hid k3
    clear m1 k3
    go_wp2_with fail
    have k2 := block_cell HM.out 0
    have k3 := block_cell HM.out 1
    have k4 := block_cell HM.out 2
    exact bodyPost_ret (v := .tuple #[.agg #[.int .i64 0, .string ⟨#[]⟩, .slice none 0 0], .iface 83 (.int .i64 (grfE g))]) (by simp [results, Tryd.results21, go_sem, k2, k3, k4]) rfl
      ⟨.slice none 0 0, by rw [HF.out.1, HF.out.2]; rfl, by rw [HF.out.2]; exact Sl.nil 0 (Nat.zero_le _) none, ((hB.setCell (p := ⟨w.heap.size + 1, 0, none⟩) (by show w.heap.size ≤ w.heap.size + 1; omega) _).setCell (p := ⟨w.heap.size + 1, 1, none⟩) (by show w.heap.size ≤ w.heap.size + 1; omega) _).setCell (p := ⟨w.heap.size + 1, 2, none⟩) (by show w.heap.size ≤ w.heap.size + 1; omega) _⟩
  obtain ⟨h60, _, hch, hnods⟩ := grf_ok he
  have HN := Lib.hid hnods
  have HNE2 : Hid (nodeE g id = if fhas g.nodes id then 0 else 5) := by unfold Hid; rw [HNE.out, if_pos he]
  rw [errV_zero he]
  have hf := find_any g _ _ w1 (HG.out.below hb1) id hch (by omega)
  have x0 := block_cell m0 0
  have x1 := block_cell m0 1
  have HFS : Hid (fhas g.nodes id = true → ∃ n, g.nodes[fpos g.nodes id]? = some n) := fhas_some'
  generalize fhas g.nodes id = q at *
  generalize fpos g.nodes id = K at *
  clear he HNE hch hnods
  go_wp2_with fail
  refine hf.mono ?_
  clear hf
  rintro e w2 ⟨rfl, hb2⟩
  have hB2 := hB1.trans (hb2.mono hB1.size)
  have hG2 := (HG.out.below hb1).below hb2
  have m0' := (hb2.block _ (Array.getElem?_eq_some_iff.1 m0).1).trans m0
  have m1' := (hb2.block _ (Array.getElem?_eq_some_iff.1 m1).1).trans m1
  clear m0 m1 x0 x1
  cases q with
  | false =>
    have HF : Hid (errV (nodeE g id) = .iface 83 (.int .i64 5) ∧ nodeR g id = zeroN) := by
      have h0 : nodeE g id = 5 := by rw [HNE2.out]; rfl
      exact ⟨by rw [h0]; rfl, by rw [HNR.out, h0, if_neg (by omega)]⟩
    have hB := hB2
    have m1 := m1'
    clear HNE2 HNR hB1 hB2 m0' m1' hG2
    have e0 := block_free m1 0
    have e1 := block_free m1 1
    have e2 := block_free m1 2
    have e3 := block_cell m1 0
    have e4 := block_cell m1 1
    have e5 := block_cell m1 2
    have k3 := setCell_block (setCell_block (setCell_block m1 0 (.int .i64 0)) 1 (.string ⟨#[]⟩)) 2 (.slice none 0 0)
    have HM := Lib.hid k3
    clear m1 k3
    go_wp2_with fail
    have k2 := block_cell HM.out 0
    have k3 := block_cell HM.out 1
    have k4 := block_cell HM.out 2
    exact bodyPost_ret (v := .tuple #[.agg #[.int .i64 0, .string ⟨#[]⟩, .slice none 0 0], .iface 83 (.int .i64 (5))]) (by simp [results, Tryd.results21, go_sem, k2, k3, k4]) rfl
      ⟨.slice none 0 0, by rw [HF.out.1, HF.out.2]; rfl, by rw [HF.out.2]; exact Sl.nil 0 (Nat.zero_le _) none, ((hB.setCell (p := ⟨w.heap.size + 1, 0, none⟩) (by show w.heap.size ≤ w.heap.size + 1; omega) _).setCell (p := ⟨w.heap.size + 1, 1, none⟩) (by show w.heap.size ≤ w.heap.size + 1; omega) _).setCell (p := ⟨w.heap.size + 1, 2, none⟩) (by show w.heap.size ≤ w.heap.size + 1; omega) _⟩
  | true =>
    obtain ⟨d, hd⟩ := HFS.out rfl
    have HF : Hid (errV (nodeE g id) = .nilIface ∧ nodeR g id = d) := by
      have h0 : nodeE g id = 0 := by rw [HNE2.out]; rfl
      exact ⟨by rw [h0]; rfl, by rw [HNR.out, h0, if_pos rfl, hd]; rfl⟩
    obtain ⟨bn, on, rfl, u5, hid, hkd, hpr, n0, n1, n2⟩ := nod_at hG2.1 hd
    have hpl8 : d.props.length ≤ 8 := (rec_ok (nod_rec2 (HN.out d (List.mem_of_getElem? hd)).2)).1
    obtain ⟨A5, c5, rfl, _, _⟩ := hpr.form
    have hKl : (K : Int) < (g.nodes.length : Int) := by have := (List.getElem?_eq_some_iff.1 hd).1; omega
    have hcall := ownNode_any d _ w2 hpr (by omega)
    have x0 := block_cell m0' 0
    have x1 := block_cell m0' 1
    clear HNE2 HNR hd hpr hG2 m0' HFS
    go_wp2_with fail
    refine hcall.mono ?_
    clear hcall
    rintro e w3 ⟨u, rfl, hu, hb3⟩
    have hB := hB2.trans (hb3.mono hB2.size)
    have m1 := (hb3.block _ (Array.getElem?_eq_some_iff.1 m1').1).trans m1'
    have hs2 := hB2.size
    have e0 := block_free m1 0
    have e1 := block_free m1 1
    have e2 := block_free m1 2
    have e3 := block_cell m1 0
    have e4 := block_cell m1 1
    have e5 := block_cell m1 2
    obtain ⟨A6, c6, rfl, _, _⟩ := hu.1.form
    have p1 := setCell_block m1 0 (.int .i64 d.id)
    have p2 := setCell_block p1 1 (.string d.kind)
    have p3 := setCell_block p2 2 (.slice A6 d.props.length c6)
    have HM := Lib.hid p3
    have HS : Hid (∀ T, 56 ≠ T → Same T w3 (((w3.setCell ⟨w.heap.size + 1, 0, none⟩ (.int .i64 d.id)).setCell ⟨w.heap.size + 1, 1, none⟩ (.string d.kind)).setCell ⟨w.heap.size + 1, 2, none⟩ (.slice A6 d.props.length c6))) := fun T hT =>
      (Same.setCell (p := ⟨w.heap.size + 1, 0, none⟩) m1 hT _).trans ((Same.setCell (p := ⟨w.heap.size + 1, 1, none⟩) p1 hT _).trans (Same.setCell (p := ⟨w.heap.size + 1, 2, none⟩) p2 hT _))
    have HU := Lib.hid hu
    clear m1 p1 p2 p3 hu m1' n0 n1 n2 x0 x1
    go_wp2_with fail
    have k2 := block_cell HM.out 0
    have k3 := block_cell HM.out 1
    have k4 := block_cell HM.out 2
    exact bodyPost_ret (v := .tuple #[.agg #[.int .i64 d.id, .string d.kind, .slice A6 d.props.length c6], .nilIface]) (by simp [results, Tryd.results21, go_sem, k2, k3, k4]) rfl
      ⟨.slice A6 d.props.length c6, by rw [HF.out.1, HF.out.2], by rw [HF.out.2]; exact Own.prps (HU.out.1.same (HS.out _ (by decide))) HU.out.2, ((hB.setCell (p := ⟨w.heap.size + 1, 0, none⟩) (by show w.heap.size ≤ w.heap.size + 1; omega) _).setCell (p := ⟨w.heap.size + 1, 1, none⟩) (by show w.heap.size ≤ w.heap.size + 1; omega) _).setCell (p := ⟨w.heap.size + 1, 2, none⟩) (by show w.heap.size ≤ w.heap.size + 1; omega) _⟩
end Go.Proofs.YthefofclbepkoaaDoor

/- Plain laws of the model: a struct stored into an owned row; clear; what slices.DeleteFunc has kept so far. No condition. -/
namespace Go.Proofs.YthefofclbepkoaaDoor
open Go Go.RowKit

/-! ### Lists -/
/-- The cells from k on are these. -/
def setAll {α : Type} : List α → Nat → List α → List α
  | xs, _, [] => xs
  | xs, k, c :: cs => setAll (xs.set k c) (k + 1) cs
theorem setAll_append {α : Type} (P : List α) : ∀ (cs R : List α) (k : Nat), setAll (P ++ R) (P.length + k) cs = P ++ setAll R k cs
  | [], _, _ => rfl
  | c :: cs, R, k => by
    rw [setAll, setAll, List.set_append_right _ _ (by omega), Nat.add_sub_cancel_left, Nat.add_assoc]
    exact setAll_append P cs _ _
theorem setAll_head {α : Type} : ∀ (cs P R : List α), P.length = cs.length → setAll (P ++ R) 0 cs = cs ++ R
  | [], P, R, h => by
    have e : P = [] := List.eq_nil_of_length_eq_zero (by simpa using h)
    subst e; rfl
  | c :: cs, a :: P, R, h => by
    show setAll (c :: (P ++ R)) (0 + 1) cs = _
    have := setAll_append [c] cs (P ++ R) 0
    simp only [List.singleton_append, List.length_singleton] at this
    rw [show (0 : Nat) + 1 = 1 + 0 by omega, this, setAll_head cs P R (by simpa using h)]
    rfl
  | c :: cs, [], R, h => by simp at h
section
variable {D : Type} {n : Nat} {enc : D → List Value}
theorem flat_set (hn : ∀ d, (enc d).length = n) : ∀ (l : List D) (i : Nat) (d : D), i < l.length → setAll (l.flatMap enc) (i * n) (enc d) = (l.set i d).flatMap enc
  | a :: l, 0, d, _ => by
    rw [List.flatMap_cons, Nat.zero_mul, List.set_cons_zero, List.flatMap_cons]
    exact setAll_head _ _ _ (by rw [hn, hn])
  | a :: l, i + 1, d, h => by
    rw [List.flatMap_cons, List.set_cons_succ, List.flatMap_cons, ← flat_set hn l i d (by simpa using h), ← setAll_append]
    congr 1
    rw [hn, Nat.add_mul]; omega
end

/-! ### What is kept -/
structure Kept {D : Type} (p : D → Bool) (l dk : List D) (j i : Nat) : Prop where
  len : dk.length = l.length
  lt : i < j
  le : j ≤ l.length
  low : dk.take i = (l.take j).filter (fun x => !p x)
  high : dk.drop j = l.drop j
theorem filter_all {D : Type} {p : D → Bool} {l : List D} (h : ∀ j x, j < l.length → l[j]? = some x → p x = false) : l.filter (fun x => !p x) = l := by
  rw [List.filter_eq_self]
  intro x hx
  obtain ⟨i, hi⟩ := List.mem_iff_getElem?.1 hx
  rw [h i x (List.getElem?_eq_some_iff.1 hi).1 hi]; rfl
theorem take_snoc {D : Type} {l : List D} {j : Nat} {d : D} (h : l[j]? = some d) : l.take (j + 1) = l.take j ++ [d] := by
  rw [List.take_add_one, h]; rfl
theorem Kept.start {D : Type} {p : D → Bool} {l : List D} {k : Nat} {d : D} (h : l[k]? = some d) (hd : p d = true) (hm : ∀ j x, j < k → l[j]? = some x → p x = false) : Kept p l l (k + 1) k := by
  have hk := (List.getElem?_eq_some_iff.1 h).1
  refine ⟨rfl, by omega, by omega, ?_, rfl⟩
  rw [take_snoc h, List.filter_append]
  have e : [d].filter (fun x => !p x) = [] := by simp [hd]
  rw [e, List.append_nil, filter_all]
  intro j x hj hx
  rw [List.getElem?_take] at hx
  split at hx
  · exact hm j x (by assumption) hx
  · cases hx
theorem Kept.at {D : Type} {p : D → Bool} {l dk : List D} {j i : Nat} (h : Kept p l dk j i) (hj : j < l.length) : dk[j]? = l[j]? := by
  have := congrArg (fun x => x[0]?) h.high
  simpa using this
theorem Kept.skip {D : Type} {p : D → Bool} {l dk : List D} {j i : Nat} {d : D} (h : Kept p l dk j i) (hd : l[j]? = some d) (hp : p d = true) : Kept p l dk (j + 1) i := by
  have hjl := (List.getElem?_eq_some_iff.1 hd).1
  refine ⟨h.len, by have := h.lt; omega, by omega, ?_, ?_⟩
  · rw [take_snoc hd, List.filter_append, h.low]; simp [hp]
  · have := congrArg (List.drop 1) h.high
    simpa using this
theorem Kept.keep {D : Type} {p : D → Bool} {l dk : List D} {j i : Nat} {d : D} (h : Kept p l dk j i) (hd : l[j]? = some d) (hp : p d = false) : Kept p l (dk.set i d) (j + 1) (i + 1) := by
  have hj := (List.getElem?_eq_some_iff.1 hd).1
  have hlt := h.lt
  have hl := h.len
  refine ⟨by rw [List.length_set]; exact hl, by omega, by omega, ?_, ?_⟩
  · rw [take_snoc hd, List.filter_append, ← h.low, take_snoc (l := dk.set i d) (j := i) (d := d) (by rw [List.getElem?_set]; simp; omega), List.take_set_of_le (Nat.le_refl _)]
    simp [hp]
  · rw [List.drop_set_of_lt (by omega)]
    have := congrArg (List.drop 1) h.high
    simpa using this
theorem Kept.done {D : Type} {p : D → Bool} {l dk : List D} {i : Nat} (h : Kept p l dk l.length i) : dk.take i = l.filter (fun x => !p x) ∧ (l.filter (fun x => !p x)).length = i := by
  have e := h.low
  rw [List.take_length] at e
  refine ⟨e, ?_⟩
  rw [← e, List.length_take]
  have := h.lt; have := h.len; omega
theorem idxI_cases {D : Type} (p : D → Bool) (l : List D) : (idxI p l = -1 ∧ l.filter (fun x => !p x) = l) ∨ ∃ (k : Nat) (d : D), idxI p l = k ∧ l[k]? = some d ∧ Kept p l l (k + 1) k := by
  unfold idxI
  cases h : l.findIdx? p with
  | none =>
    left
    refine ⟨rfl, filter_all fun j x _ hx => ?_⟩
    have := List.findIdx?_eq_none_iff.1 h x (List.mem_of_getElem? hx)
    simpa using this
  | some k =>
    right
    rw [List.findIdx?_eq_some_iff_getElem] at h
    obtain ⟨hk, hp, hm⟩ := h
    refine ⟨k, l[k], rfl, List.getElem?_eq_getElem hk, Kept.start (List.getElem?_eq_getElem hk) hp fun j x hj hx => ?_⟩
    obtain ⟨hjl, rfl⟩ := List.getElem?_eq_some_iff.1 hx
    simpa using hm j hj

/-! ### The model: clear -/
theorem grownBy_setRow {w : World} {g : Nat} {xs : Array Value} : w.grownBy (w.setRow g xs) (some g) :=
  ⟨rfl, rfl, rfl, by simp, fun k _ hk => setRow_other w g k _ (fun e => hk (by rw [e]))⟩
theorem grownBy_setCell_q (W : World) (p : Addr) (v : Value) : W.grownBy (W.setCell p v) (some p.block) :=
  ⟨rfl, rfl, rfl, by simp [World.setCell], fun k _ hk => Below.heap_setCell _ _ _ _ (fun e => hk (by rw [e]))⟩
theorem grownBy_below {w w' : World} (h : Below w.heap.size w w') (row : Option Nat) : w.grownBy w' row := ⟨h.os, h.tape, h.output, h.size, fun k hk _ => h.block k hk⟩
section
variable {P : Program}
theorem run_clear_q (w : World) (t ty e te : TypeId) (i0 : TypeInfo) (z : Value) (size : Nat) (ht : P.underlying t = some (.slice e)) (hi : P.info? e = some i0) (hz : i0.zero = some z) (hzs : z.cells.size = size) (h1 : ∀ u ∈ z.cells, u.oneCell' = true)
    (g o n c : Nat) (cur : Array Value) (hg : w.heap[g]? = some (.cells cur te (0, 0))) (hn : 0 < n) (hs : 0 < size) (hfit : o + n * size ≤ cur.size) :
    (Builtin.clear_ #[t] ty #[.slice (some ⟨g, o, none⟩) n c]).run P w = .ok (.tuple #[]) (w.setRow g (lay cur.toList o (Builtin.zeroCells z.cells n).toList).toArray) := by
  have hzl : (Builtin.zeroCells z.cells n).toList.length = n * size := by rw [Array.length_toList, size_zeroCells, hzs]
  have hone : ∀ u ∈ (Builtin.zeroCells z.cells n).toList, u.oneCell' = true := by
    intro u hu
    simp only [Builtin.zeroCells, Array.toList_map, List.mem_map] at hu
    obtain ⟨k, _, rfl⟩ := hu
    have hlt : k % z.cells.size < z.cells.size := Nat.mod_lt _ (by omega)
    rw [getElem!_pos z.cells _ hlt]
    exact h1 _ (Array.getElem_mem hlt)
  have hst := run_storeCells_at P g o te (Builtin.zeroCells z.cells n).toList 0 cur w hg (by rw [hzl]; omega) hone
  obtain ⟨m, rfl⟩ : ∃ m, n = m + 1 := ⟨n - 1, by omega⟩
  unfold lay
  simp [Builtin.clear_, run_underlying ht, zeroValue, typeInfo, hi, hz, hst]
theorem Own.clear {w : World} {B : Nat} {e : TypeId} {g o n c i : Nat} {xs : List Value} (t : TypeId) (i0 : TypeInfo) (z : Value) (size : Nat) (ht : P.underlying t = some (.slice e)) (hi : P.info? e = some i0) (hz : i0.zero = some z) (hzs : z.cells.size = size) (h1' : z.cells.all (fun u => u.oneCell') = true) (hs : 0 < size)
    (h : Own w B e size (.slice (some ⟨g, o, none⟩) n c) n xs) (hin : i < n) :
    ∃ w', (∀ ty c', (Builtin.clear_ #[t] ty #[.slice (some ⟨g, o + i * size, none⟩) (n - i) c']).run P w = .ok (.tuple #[]) w') ∧ Own w' B e size (.slice (some ⟨g, o, none⟩) i c) i (xs.take (i * size)) ∧ w.grownBy w' (some g) := by
  have h1 : ∀ u ∈ z.cells, u.oneCell' = true := fun u hu => Array.all_eq_true_iff_forall_mem.1 h1' u hu
  rcases h.2 with ⟨h0, _⟩ | ⟨g', o', cap, cur, hv, hb, hg, h2, h3, h4, h5⟩
  · cases h0
  · injection hv with e1 _ e3
    injection e1 with e1
    injection e1 with e1 e2
    subst e1; subst e2; subst e3
    have hni : (n - i) * size + i * size = n * size := by rw [← Nat.add_mul]; congr 1; omega
    have hnc : n * size ≤ c * size := Nat.mul_le_mul_right _ h2
    have hic : i * size ≤ n * size := Nat.mul_le_mul_right _ (by omega)
    have hzl : (Builtin.zeroCells z.cells (n - i)).toList.length = (n - i) * size := by rw [Array.length_toList, size_zeroCells, hzs]
    refine ⟨_, fun ty c' => run_clear_q w t ty e e i0 z size ht hi hz hzs h1 g (o + i * size) (n - i) c' cur hg (by omega) hs (by omega), ⟨by rw [List.length_take, h.1]; omega, .inr ⟨g, o, c, _, rfl, hb, setRow_heap w g cur _ e _ hg, by omega, h3, ?_, ?_⟩⟩, grownBy_setRow⟩
    · rw [List.size_toArray, lay_length (by rw [hzl, Array.length_toList]; omega), Array.length_toList]; omega
    · show ((lay cur.toList (o + i * size) _).drop o).take (i * size) = _
      unfold lay
      rw [List.append_assoc, List.drop_append_of_le_length (by rw [List.length_take, Array.length_toList]; omega), List.take_append_of_le_length (by rw [List.length_drop, List.length_take, Array.length_toList]; omega), ← h5, List.take_take, Nat.min_eq_left hic, List.drop_take, List.take_take]
      congr 1
      omega
theorem wpList_clear_q (w : World) {ops : Array Oper} {rest : List Oper} {o : Oper} {a : Act} {Q : Exit → Act → World → Prop} (hgd : o.guard = none) (s : Operand) (t : TypeId)
    (ho : o.op = .call { callee := .builtin .clear, args := #[s], argTypes := #[t] }) (v : Value) (hs : a.eval s = v) {v' : Value} {w' : World}
    (hr : (Builtin.clear_ #[t] o.type #[v]).run P w = .ok v' w') (h : wpList P ops Q rest (a.put o.dst v') w') : wpList P ops Q (o :: rest) a w := by
  refine wpList_plain hgd fun _ hK => ?_
  unfold Oper.wp execOp
  simp only [ho, resolve, invoke, builtin, Sem.run_bind, Sem.run_pure, Result.andThen_ok, List.map_toArray, List.map_cons, List.map_nil, hs, hr]
  exact hK _ _ h
end
/-- The first k of it. -/
theorem Own.first {w : World} {B : Nat} {e : TypeId} {sz g o n c : Nat} {xs : List Value} (h : Own w B e sz (.slice (some ⟨g, o, none⟩) n c) n xs) {k : Nat} (hk : k ≤ n) : Own w B e sz (.slice (some ⟨g, o, none⟩) k c) k (xs.take (k * sz)) := by
  rcases h.2 with ⟨h0, _⟩ | ⟨g', o', cap, cur, hv, hb, hg, h2, h3, h4, h5⟩
  · cases h0
  · injection hv with e1 _ e3
    injection e1 with e1
    injection e1 with e1 e2
    subst e1; subst e2; subst e3
    have hic : k * sz ≤ n * sz := Nat.mul_le_mul_right _ hk
    refine ⟨by rw [List.length_take, h.1]; omega, .inr ⟨g, o, c, cur, rfl, hb, hg, by omega, h3, h4, ?_⟩⟩
    rw [← h5, List.take_take, Nat.min_eq_left hic]
/-- A predicate that answers p in whatever world agrees below B. -/
def PredO {D : Type} (P : Program) (g : Nat) (caps : Array Value) (V : D → Value → Prop) (p : D → Bool) (B : Nat) (w : World) : Prop :=
  ∀ x u wx, Below B w wx → V x u → Calls P g (#[u] ++ caps) wx (fun e w' => e = .returned (.bool (p x)) ∧ Below wx.heap.size wx w')
/-- A predicate that answers p in whatever world agrees but for one block. -/
def PredG {D : Type} (P : Program) (g : Nat) (caps : Array Value) (V : D → Value → Prop) (p : D → Bool) (row : Option Nat) (w : World) : Prop :=
  ∀ x u wx, w.grownBy wx row → V x u → Calls P g (#[u] ++ caps) wx (fun e w' => e = .returned (.bool (p x)) ∧ Below wx.heap.size wx w')
end Go.Proofs.YthefofclbepkoaaDoor
