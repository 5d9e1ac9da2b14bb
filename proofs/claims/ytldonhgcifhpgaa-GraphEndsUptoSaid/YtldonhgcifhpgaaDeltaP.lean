/- Plain: what an op makes of a graph; graphs that a call owns. -/
import Derived.Test.YtldonhgcifhpgaaTieP
import Derived.Test.YtldonhgcifhpgaaRecT
namespace Go.Proofs.Ytldonhgcifhpgaa
open Go Go.RowKit

structure Opr where
  what : Int
  node : Nod
  prop : Prp
  tie : Tie
def unsetE (r : List Prp) (nm : ByteArray) : Int := if recE r = 0 then (if rhas r nm then 0 else 5) else recE r
def unsetR (r : List Prp) (nm : ByteArray) : List Prp := if unsetE r nm = 0 then r.take (rpos r nm) ++ r.drop (rpos r nm + 1) else []
def bornE (g : Grf) (n : Nod) : Int := if nodE n = 0 then (if fhas g.nodes n.id then 7 else if 60 ≤ g.nodes.length then 4 else 0) else nodE n
def bornG (g : Grf) (n : Nod) : Grf := ⟨g.nodes.take (fpos g.nodes n.id) ++ n :: g.nodes.drop (fpos g.nodes n.id), g.ties⟩
def touch (id : Int) (t : Tie) : Bool := t.src == id || t.dst == id
def goneG (g : Grf) (id : Int) : Grf := ⟨g.nodes.take (fpos g.nodes id) ++ g.nodes.drop (fpos g.nodes id + 1), g.ties.filter fun t => !touch id t⟩
def recAt (l : List Nod) (id : Int) : List Prp := match l[fpos l id]? with | some n => n.props | none => []
def putRec (l : List Nod) (k : Nat) (r : List Prp) : List Nod := match l[k]? with | some n => l.set k ⟨n.id, n.kind, r⟩ | none => l
def opE (g : Grf) (o : Opr) : Int :=
  if o.what = 1 then bornE g o.node
  else if o.what = 2 then (if fhas g.nodes o.node.id then 0 else 5)
  else if o.what = 3 then (if fhas g.nodes o.node.id then setE (recAt g.nodes o.node.id) o.prop else 5)
  else if o.what = 4 then (if fhas g.nodes o.node.id then unsetE (recAt g.nodes o.node.id) o.prop.name else 5)
  else if o.what = 5 then (if tieE o.tie = 0 then (if thas g.ties o.tie then 7 else if 120 ≤ g.ties.length then 4 else 0) else tieE o.tie)
  else if o.what = 6 then (if thas g.ties o.tie then 0 else 5)
  else 1
def opG (g : Grf) (o : Opr) : Grf :=
  if o.what = 1 then bornG g o.node
  else if o.what = 2 then goneG g o.node.id
  else if o.what = 3 then ⟨putRec g.nodes (fpos g.nodes o.node.id) (setR (recAt g.nodes o.node.id) o.prop), g.ties⟩
  else if o.what = 4 then ⟨putRec g.nodes (fpos g.nodes o.node.id) (unsetR (recAt g.nodes o.node.id) o.prop.name), g.ties⟩
  else if o.what = 5 then ⟨g.nodes, g.ties.take (tpos g.ties o.tie) ++ o.tie :: g.ties.drop (tpos g.ties o.tie)⟩
  else if o.what = 6 then ⟨g.nodes, g.ties.take (tpos g.ties o.tie) ++ g.ties.drop (tpos g.ties o.tie + 1)⟩
  else g
/-- What delta.Do answers. -/
def doE (g : Grf) (o : Opr) : Int := if grfE g = 0 then opE g o else grfE g
def doG (g : Grf) (o : Opr) : Grf := if doE g o = 0 then opG g o else ⟨[], []⟩

theorem OwnNods.len {w : World} {B : Nat} : ∀ {l : List Nod} {xs : List Value}, OwnNods w B l xs → xs.length = l.length * 3
  | [], xs, h => by rw [show xs = [] from h]; rfl
  | d :: l, xs, h => by
    obtain ⟨u, ys, rfl, _, _, _, _, h5⟩ := h
    have := h5.len
    simp only [List.length_append, List.length_cons, List.length_nil, this]
    omega
theorem OwnNods.append {w : World} {B : Nat} : ∀ {l m : List Nod} {xs ys : List Value}, OwnNods w B l xs → OwnNods w B m ys → OwnNods w B (l ++ m) (xs ++ ys)
  | [], m, xs, ys, h, k => by rw [show xs = [] from h]; exact k
  | d :: l, m, xs, ys, h, k => by
    obtain ⟨u, zs, rfl, h1, h2, h3, h4, h5⟩ := h
    exact ⟨u, zs ++ ys, by simp, h1, h2, h3, h4, h5.append k⟩
theorem OwnNods.split {w : World} {B : Nat} : ∀ {l : List Nod} {xs : List Value} (i : Nat), i ≤ l.length → OwnNods w B l xs → OwnNods w B (l.take i) (xs.take (i * 3)) ∧ OwnNods w B (l.drop i) (xs.drop (i * 3))
  | l, xs, 0, _, h => by simp only [List.take_zero, Nat.zero_mul, List.drop_zero]; exact ⟨rfl, h⟩
  | [], xs, i + 1, hi, h => by simp at hi
  | d :: l, xs, i + 1, hi, h => by
    obtain ⟨u, ys, rfl, h1, h2, h3, h4, h5⟩ := h
    obtain ⟨k1, k2⟩ := h5.split i (by simpa using hi)
    have e : (i + 1) * 3 = i * 3 + 1 + 1 + 1 := by omega
    rw [e]
    exact ⟨⟨u, ys.take (i * 3), rfl, h1, h2, h3, h4, k1⟩, k2⟩
theorem OwnNods.one {w : World} {B : Nat} {d : Nod} {u : Value} (h1 : I64 d.id) (h2 : Sm d.kind) (h3 : ∀ p ∈ d.props, p.ok) (h4 : Own w B 48 4 u d.props.length (d.props.flatMap Prp.enc)) :
    OwnNods w B [d] [.int .i64 d.id, .string d.kind, u] := ⟨u, [], rfl, h1, h2, h3, h4, rfl⟩
theorem OwnNods.drop1 {w : World} {B : Nat} {l : List Nod} {xs : List Value} (i : Nat) (hi : i < l.length) (h : OwnNods w B l xs) : OwnNods w B (l.take i ++ l.drop (i + 1)) (xs.take (i * 3) ++ xs.drop ((i + 1) * 3)) :=
  (h.split i (by omega)).1.append (h.split (i + 1) (by omega)).2
theorem OwnNods.insert {w : World} {B : Nat} {l : List Nod} {xs : List Value} {d : Nod} {u : Value} (i : Nat) (hi : i ≤ l.length) (h : OwnNods w B l xs) (h1 : I64 d.id) (h2 : Sm d.kind) (h3 : ∀ p ∈ d.props, p.ok) (h4 : Own w B 48 4 u d.props.length (d.props.flatMap Prp.enc)) :
    OwnNods w B (l.take i ++ d :: l.drop i) (xs.take (i * 3) ++ [.int .i64 d.id, .string d.kind, u] ++ xs.drop (i * 3)) := by
  have := ((h.split i hi).1.append (OwnNods.one h1 h2 h3 h4)).append (h.split i hi).2
  rw [show l.take i ++ d :: l.drop i = l.take i ++ [d] ++ l.drop i by simp]
  exact this
theorem OwnNods.oneCell {w : World} {B : Nat} {l : List Nod} {xs : List Value} (h : OwnNods w B l xs) : ∀ u ∈ xs, u.oneCell' = true := h.row.oneCell one_nod
theorem OwnNods.get {w : World} {B : Nat} {l : List Nod} {xs : List Value} {i : Nat} {d : Nod} (h : OwnNods w B l xs) (hi : l[i]? = some d) :
    ∃ u, xs[i * 3]? = some (.int .i64 d.id) ∧ xs[i * 3 + 1]? = some (.string d.kind) ∧ xs[i * 3 + 2]? = some u ∧ I64 d.id ∧ Sm d.kind ∧ (∀ p ∈ d.props, p.ok) ∧ Own w B 48 4 u d.props.length (d.props.flatMap Prp.enc) := by
  have hil := (List.getElem?_eq_some_iff.1 hi).1
  have h2 := (h.split i (by omega)).2
  rw [drop_cons hi] at h2
  obtain ⟨u, ys, he, h1, h3, h4, h5, _⟩ := h2
  have hx : ∀ j, xs[i * 3 + j]? = (xs.drop (i * 3))[j]? := fun j => (List.getElem?_drop ..).symm
  refine ⟨u, ?_, ?_, ?_, h1, h3, h4, h5⟩
  · have := hx 0; rw [Nat.add_zero] at this; rw [this, he]; rfl
  · rw [hx 1, he]; rfl
  · rw [hx 2, he]; rfl
theorem OwnNods.put {w : World} {B : Nat} {r : List Prp} {v : Value} (h3 : ∀ p ∈ r, p.ok) (h4 : Own w B 48 4 v r.length (r.flatMap Prp.enc)) : ∀ {l : List Nod} {xs : List Value} {i : Nat} {d : Nod}, OwnNods w B l xs → l[i]? = some d → OwnNods w B (l.set i ⟨d.id, d.kind, r⟩) (xs.set (i * 3 + 2) v)
  | [], xs, i, d, h, hi => by simp at hi
  | e :: l, xs, 0, d, h, hi => by
    simp at hi
    subst hi
    obtain ⟨u, ys, rfl, h1, h2, _, _, h5⟩ := h
    exact ⟨v, ys, rfl, h1, h2, h3, h4, h5⟩
  | e :: l, xs, i + 1, d, h, hi => by
    obtain ⟨u, ys, rfl, h1, h2, k3, k4, h5⟩ := h
    have ih := OwnNods.put h3 h4 h5 (by simpa using hi)
    have e : (i + 1) * 3 + 2 = i * 3 + 2 + 1 + 1 + 1 := by omega
    rw [e]
    exact ⟨u, ys.set (i * 3 + 2) v, rfl, h1, h2, k3, k4, ih⟩
/-- A graph that is the call's own. -/
structure OwnG (w : World) (B : Nat) (vn vt : Value) (g : Grf) (xs : List Value) : Prop where
  n : Own w B 72 3 vn g.nodes.length xs
  o : OwnNods w B g.nodes xs
  t : Own w B 74 3 vt g.ties.length (g.ties.flatMap Tie.enc)
  k : ∀ x ∈ g.ties, x.ok
theorem OwnG.r {w : World} {B : Nat} {vn vt : Value} {g : Grf} {xs : List Value} (h : OwnG w B vn vt g xs) : GrfR w vn vt g := ⟨Own.nods h.n h.o, Own.ties h.t h.k⟩
theorem OwnG.below {w w' : World} {B : Nat} {vn vt : Value} {g : Grf} {xs : List Value} (h : OwnG w B vn vt g xs) (hb : Below w.heap.size w w') : OwnG w' B vn vt g xs := ⟨h.n.below hb, h.o.same (.below hb), h.t.below hb, h.k⟩
theorem OwnG.same {w w' : World} {B : Nat} {vn vt : Value} {g : Grf} {xs : List Value} (h : OwnG w B vn vt g xs) (h1 : Same 72 w w') (h2 : Same 48 w w') (h3 : Same 74 w w') : OwnG w' B vn vt g xs :=
  ⟨h.n.same h1, h.o.same h2, h.t.same h3, h.k⟩
theorem OwnG.mono {w : World} {B B' : Nat} {vn vt : Value} {g : Grf} {xs : List Value} (h : OwnG w B vn vt g xs) (hB : B' ≤ B) : OwnG w B' vn vt g xs := by
  refine ⟨h.n.mono hB, ?_, h.t.mono hB, h.k⟩
  have : ∀ {l : List Nod} {ys : List Value}, OwnNods w B l ys → OwnNods w B' l ys := by
    intro l
    induction l with
    | nil => intro ys h; exact h
    | cons d l ih =>
      intro ys h
      obtain ⟨u, zs, rfl, h1, h2, h3, h4, h5⟩ := h
      exact ⟨u, zs, rfl, h1, h2, h3, h4.mono hB, ih h5⟩
  exact this h.o
theorem OwnG.nil {w : World} {B : Nat} : OwnG w B (.slice none 0 0) (.slice none 0 0) ⟨[], []⟩ [] := ⟨Own.nil _ _ _ _, rfl, Own.nil _ _ _ _, fun x hx => by cases hx⟩
/-- A graph and an error. -/
def RetG (g : Grf) (err : Int) (w : World) (e : Ending) (w' : World) : Prop := ∃ vn vt, e = .returned (.tuple #[.agg #[vn, vt], errV err]) ∧ GrfR w' vn vt g ∧ Below w.heap.size w w'
/-- No block that was there has turned, but those of two slices. -/
structure Keep2 (w w' : World) (a b : Value) : Prop where
  s : w.heap.size ≤ w'.heap.size
  k : ∀ k, k < w.heap.size → some k ≠ a.ownBlock → some k ≠ b.ownBlock → w'.heap[k]? = w.heap[k]?
theorem Keep2.below {w w' : World} {a b : Value} (hb : Below w.heap.size w w') : Keep2 w w' a b := ⟨hb.size, fun k hk _ _ => hb.block k hk⟩
theorem Keep2.then {w w1 w2 : World} {a b : Value} (h : Keep2 w w1 a b) (hb : Below w1.heap.size w1 w2) : Keep2 w w2 a b :=
  ⟨Nat.le_trans h.s hb.size, fun k hk h1 h2 => (hb.block k (Nat.lt_of_lt_of_le hk h.s)).trans (h.k k hk h1 h2)⟩
theorem Keep2.grown1 {w w1 w2 : World} {a b : Value} (h : Keep2 w w1 a b) (hg : w1.grownBy w2 a.ownBlock) : Keep2 w w2 a b :=
  ⟨Nat.le_trans h.s hg.size, fun k hk h1 h2 => (hg.block k (Nat.lt_of_lt_of_le hk h.s) h1).trans (h.k k hk h1 h2)⟩
theorem Keep2.grown2 {w w1 w2 : World} {a b : Value} (h : Keep2 w w1 a b) (hg : w1.grownBy w2 b.ownBlock) : Keep2 w w2 a b :=
  ⟨Nat.le_trans h.s hg.size, fun k hk h1 h2 => (hg.block k (Nat.lt_of_lt_of_le hk h.s) h2).trans (h.k k hk h1 h2)⟩
theorem own_len (A : Option Addr) (n n' c : Nat) : (Value.slice A n c).ownBlock = (Value.slice A n' c).ownBlock := by cases A <;> rfl
theorem Keep2.grown1' {w w1 w2 : World} {A : Option Addr} {n n' c : Nat} {b : Value} (h : Keep2 w w1 (.slice A n c) b) (hg : w1.grownBy w2 (Value.slice A n' c).ownBlock) : Keep2 w w2 (.slice A n c) b := h.grown1 (by rw [own_len A n n' c]; exact hg)
theorem Keep2.grown2' {w w1 w2 : World} {A : Option Addr} {n n' c : Nat} {a : Value} (h : Keep2 w w1 a (.slice A n c)) (hg : w1.grownBy w2 (Value.slice A n' c).ownBlock) : Keep2 w w2 a (.slice A n c) := h.grown2 (by rw [own_len A n n' c]; exact hg)
theorem Keep2.box {w w1 : World} {a b : Value} (h : Keep2 w w1 a b) {p : Addr} (hp : w.heap.size ≤ p.block) (u : Value) : Keep2 w (w1.setCell p u) a b :=
  ⟨by have := h.s; simp [World.setCell]; omega, fun k hk h1 h2 => (Below.heap_setCell _ _ _ _ (by omega)).trans (h.k k hk h1 h2)⟩
theorem Keep2.own {w w1 : World} {a b : Value} (h : Keep2 w w1 a b) {p : Addr} (hp : a.ownBlock = some p.block) (u : Value) : Keep2 w (w1.setCell p u) a b :=
  ⟨by have := h.s; simp [World.setCell]; omega, fun k hk h1 h2 => (Below.heap_setCell _ _ _ _ (fun e => h1 (by rw [hp, e]))).trans (h.k k hk h1 h2)⟩
/-- What comes of an op on an owned graph: the new one is owned too, if there is no fault. -/
def RetOG (B : Nat) (a b : Value) (g : Grf) (err : Int) (w : World) (e : Ending) (w' : World) : Prop :=
  ∃ vn vt, e = .returned (.tuple #[.agg #[vn, vt], errV err]) ∧ (err = 0 → ∃ xs, OwnG w' B vn vt g xs) ∧ (∃ A n c A' n' c', vn = .slice A n c ∧ vt = .slice A' n' c') ∧ Below B w w' ∧ Keep2 w w' a b
end Go.Proofs.Ytldonhgcifhpgaa
