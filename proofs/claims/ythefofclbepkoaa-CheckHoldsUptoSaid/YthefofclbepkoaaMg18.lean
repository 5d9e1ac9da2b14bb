/- Parts: DeltaP, CloN, GNode, EmptyP. -/
import Derived.Test.YthefofclbepkoaaMg17
import Derived.Test.YthefofclbepkoaaMg16
/- Plain: what an op makes of a graph; graphs that a call owns. -/
namespace Go.Proofs.Ythefofclbepkoaa
open Go Go.RowKit

structure Opr where
  what : Int
  node : Nod
  prop : Prp
  tie : Tie
def unsetE (r : List Prp) (nm : ByteArray) : Int := if recE r = 0 then (if rhas r nm then 0 else 5) else recE r
def unsetR (r : List Prp) (nm : ByteArray) : List Prp := if unsetE r nm = 0 then r.take (rpos r nm) ++ r.drop (rpos r nm + 1) else []
def bornE (g : Grf) (n : Nod) : Int := if nodE n = 0 then (if fhas g.nodes n.id then 7 else if 60 ≤ g.nodes.length then 4 else 0) else nodE n
def bornG (g : Grf) (n : Nod) : Grf := ⟨g.nodes.take (fpos g.nodes n.id) ++ n :: g.nodes.drop (fpos g.nodes n.id), g.ties⟩
def touch (id : Int) (t : Tie) : Bool := t.src == id || t.dst == id
def goneG (g : Grf) (id : Int) : Grf := ⟨g.nodes.take (fpos g.nodes id) ++ g.nodes.drop (fpos g.nodes id + 1), g.ties.filter fun t => !touch id t⟩
def recAt (l : List Nod) (id : Int) : List Prp := match l[fpos l id]? with | some n => n.props | none => []
def putRec (l : List Nod) (k : Nat) (r : List Prp) : List Nod := match l[k]? with | some n => l.set k ⟨n.id, n.kind, r⟩ | none => l
def opE (g : Grf) (o : Opr) : Int :=
  if o.what = 1 then bornE g o.node
  else if o.what = 2 then (if fhas g.nodes o.node.id then 0 else 5)
  else if o.what = 3 then (if fhas g.nodes o.node.id then setE (recAt g.nodes o.node.id) o.prop else 5)
  else if o.what = 4 then (if fhas g.nodes o.node.id then unsetE (recAt g.nodes o.node.id) o.prop.name else 5)
  else if o.what = 5 then (if tieE o.tie = 0 then (if thas g.ties o.tie then 7 else if 120 ≤ g.ties.length then 4 else 0) else tieE o.tie)
  else if o.what = 6 then (if thas g.ties o.tie then 0 else 5)
  else 1
def opG (g : Grf) (o : Opr) : Grf :=
  if o.what = 1 then bornG g o.node
  else if o.what = 2 then goneG g o.node.id
  else if o.what = 3 then ⟨putRec g.nodes (fpos g.nodes o.node.id) (setR (recAt g.nodes o.node.id) o.prop), g.ties⟩
  else if o.what = 4 then ⟨putRec g.nodes (fpos g.nodes o.node.id) (unsetR (recAt g.nodes o.node.id) o.prop.name), g.ties⟩
  else if o.what = 5 then ⟨g.nodes, g.ties.take (tpos g.ties o.tie) ++ o.tie :: g.ties.drop (tpos g.ties o.tie)⟩
  else if o.what = 6 then ⟨g.nodes, g.ties.take (tpos g.ties o.tie) ++ g.ties.drop (tpos g.ties o.tie + 1)⟩
  else g
/-- What delta.Do answers. -/
def doE (g : Grf) (o : Opr) : Int := if grfE g = 0 then opE g o else grfE g
def doG (g : Grf) (o : Opr) : Grf := if doE g o = 0 then opG g o else ⟨[], []⟩

theorem OwnNods.len {w : World} {B : Nat} : ∀ {l : List Nod} {xs : List Value}, OwnNods w B l xs → xs.length = l.length * 3
  | [], xs, h => by rw [show xs = [] from h]; rfl
  | d :: l, xs, h => by
    obtain ⟨u, ys, rfl, _, _, _, _, h5⟩ := h
    have := h5.len
    simp only [List.length_append, List.length_cons, List.length_nil, this]
    omega
theorem OwnNods.append {w : World} {B : Nat} : ∀ {l m : List Nod} {xs ys : List Value}, OwnNods w B l xs → OwnNods w B m ys → OwnNods w B (l ++ m) (xs ++ ys)
  | [], m, xs, ys, h, k => by rw [show xs = [] from h]; exact k
  | d :: l, m, xs, ys, h, k => by
    obtain ⟨u, zs, rfl, h1, h2, h3, h4, h5⟩ := h
    exact ⟨u, zs ++ ys, by simp, h1, h2, h3, h4, h5.append k⟩
theorem OwnNods.split {w : World} {B : Nat} : ∀ {l : List Nod} {xs : List Value} (i : Nat), i ≤ l.length → OwnNods w B l xs → OwnNods w B (l.take i) (xs.take (i * 3)) ∧ OwnNods w B (l.drop i) (xs.drop (i * 3))
  | l, xs, 0, _, h => by simp only [List.take_zero, Nat.zero_mul, List.drop_zero]; exact ⟨rfl, h⟩
  | [], xs, i + 1, hi, h => by simp at hi
  | d :: l, xs, i + 1, hi, h => by
    obtain ⟨u, ys, rfl, h1, h2, h3, h4, h5⟩ := h
    obtain ⟨k1, k2⟩ := h5.split i (by simpa using hi)
    have e : (i + 1) * 3 = i * 3 + 1 + 1 + 1 := by omega
    rw [e]
    exact ⟨⟨u, ys.take (i * 3), rfl, h1, h2, h3, h4, k1⟩, k2⟩
theorem OwnNods.one {w : World} {B : Nat} {d : Nod} {u : Value} (h1 : I64 d.id) (h2 : Sm d.kind) (h3 : ∀ p ∈ d.props, p.ok) (h4 : Own w B 26 4 u d.props.length (d.props.flatMap Prp.enc)) :
    OwnNods w B [d] [.int .i64 d.id, .string d.kind, u] := ⟨u, [], rfl, h1, h2, h3, h4, rfl⟩
theorem OwnNods.drop1 {w : World} {B : Nat} {l : List Nod} {xs : List Value} (i : Nat) (hi : i < l.length) (h : OwnNods w B l xs) : OwnNods w B (l.take i ++ l.drop (i + 1)) (xs.take (i * 3) ++ xs.drop ((i + 1) * 3)) :=
  (h.split i (by omega)).1.append (h.split (i + 1) (by omega)).2
theorem OwnNods.insert {w : World} {B : Nat} {l : List Nod} {xs : List Value} {d : Nod} {u : Value} (i : Nat) (hi : i ≤ l.length) (h : OwnNods w B l xs) (h1 : I64 d.id) (h2 : Sm d.kind) (h3 : ∀ p ∈ d.props, p.ok) (h4 : Own w B 26 4 u d.props.length (d.props.flatMap Prp.enc)) :
    OwnNods w B (l.take i ++ d :: l.drop i) (xs.take (i * 3) ++ [.int .i64 d.id, .string d.kind, u] ++ xs.drop (i * 3)) := by
  have := ((h.split i hi).1.append (OwnNods.one h1 h2 h3 h4)).append (h.split i hi).2
  rw [show l.take i ++ d :: l.drop i = l.take i ++ [d] ++ l.drop i by simp]
  exact this
theorem OwnNods.oneCell {w : World} {B : Nat} {l : List Nod} {xs : List Value} (h : OwnNods w B l xs) : ∀ u ∈ xs, u.oneCell' = true := h.row.oneCell one_nod
theorem OwnNods.get {w : World} {B : Nat} {l : List Nod} {xs : List Value} {i : Nat} {d : Nod} (h : OwnNods w B l xs) (hi : l[i]? = some d) :
    ∃ u, xs[i * 3]? = some (.int .i64 d.id) ∧ xs[i * 3 + 1]? = some (.string d.kind) ∧ xs[i * 3 + 2]? = some u ∧ I64 d.id ∧ Sm d.kind ∧ (∀ p ∈ d.props, p.ok) ∧ Own w B 26 4 u d.props.length (d.props.flatMap Prp.enc) := by
  have hil := (List.getElem?_eq_some_iff.1 hi).1
  have h2 := (h.split i (by omega)).2
  rw [drop_cons hi] at h2
  obtain ⟨u, ys, he, h1, h3, h4, h5, _⟩ := h2
  have hx : ∀ j, xs[i * 3 + j]? = (xs.drop (i * 3))[j]? := fun j => (List.getElem?_drop ..).symm
  refine ⟨u, ?_, ?_, ?_, h1, h3, h4, h5⟩
  · have := hx 0; rw [Nat.add_zero] at this; rw [this, he]; rfl
  · rw [hx 1, he]; rfl
  · rw [hx 2, he]; rfl
theorem OwnNods.put {w : World} {B : Nat} {r : List Prp} {v : Value} (h3 : ∀ p ∈ r, p.ok) (h4 : Own w B 26 4 v r.length (r.flatMap Prp.enc)) : ∀ {l : List Nod} {xs : List Value} {i : Nat} {d : Nod}, OwnNods w B l xs → l[i]? = some d → OwnNods w B (l.set i ⟨d.id, d.kind, r⟩) (xs.set (i * 3 + 2) v)
  | [], xs, i, d, h, hi => by simp at hi
  | e :: l, xs, 0, d, h, hi => by
    simp at hi
    subst hi
    obtain ⟨u, ys, rfl, h1, h2, _, _, h5⟩ := h
    exact ⟨v, ys, rfl, h1, h2, h3, h4, h5⟩
  | e :: l, xs, i + 1, d, h, hi => by
    obtain ⟨u, ys, rfl, h1, h2, k3, k4, h5⟩ := h
    have ih := OwnNods.put h3 h4 h5 (by simpa using hi)
    have e : (i + 1) * 3 + 2 = i * 3 + 2 + 1 + 1 + 1 := by omega
    rw [e]
    exact ⟨u, ys.set (i * 3 + 2) v, rfl, h1, h2, k3, k4, ih⟩
/-- A graph that is the call's own. -/
structure OwnG (w : World) (B : Nat) (vn vt : Value) (g : Grf) (xs : List Value) : Prop where
  n : Own w B 46 3 vn g.nodes.length xs
  o : OwnNods w B g.nodes xs
  t : Own w B 50 3 vt g.ties.length (g.ties.flatMap Tie.enc)
  k : ∀ x ∈ g.ties, x.ok
theorem OwnG.r {w : World} {B : Nat} {vn vt : Value} {g : Grf} {xs : List Value} (h : OwnG w B vn vt g xs) : GrfR w vn vt g := ⟨Own.nods h.n h.o, Own.ties h.t h.k⟩
theorem OwnG.below {w w' : World} {B : Nat} {vn vt : Value} {g : Grf} {xs : List Value} (h : OwnG w B vn vt g xs) (hb : Below w.heap.size w w') : OwnG w' B vn vt g xs := ⟨h.n.below hb, h.o.same (.below hb), h.t.below hb, h.k⟩
theorem OwnG.same {w w' : World} {B : Nat} {vn vt : Value} {g : Grf} {xs : List Value} (h : OwnG w B vn vt g xs) (h1 : Same 46 w w') (h2 : Same 26 w w') (h3 : Same 50 w w') : OwnG w' B vn vt g xs :=
  ⟨h.n.same h1, h.o.same h2, h.t.same h3, h.k⟩
theorem OwnG.mono {w : World} {B B' : Nat} {vn vt : Value} {g : Grf} {xs : List Value} (h : OwnG w B vn vt g xs) (hB : B' ≤ B) : OwnG w B' vn vt g xs := by
  refine ⟨h.n.mono hB, ?_, h.t.mono hB, h.k⟩
  have : ∀ {l : List Nod} {ys : List Value}, OwnNods w B l ys → OwnNods w B' l ys := by
    intro l
    induction l with
    | nil => intro ys h; exact h
    | cons d l ih =>
      intro ys h
      obtain ⟨u, zs, rfl, h1, h2, h3, h4, h5⟩ := h
      exact ⟨u, zs, rfl, h1, h2, h3, h4.mono hB, ih h5⟩
  exact this h.o
theorem OwnG.nil {w : World} {B : Nat} : OwnG w B (.slice none 0 0) (.slice none 0 0) ⟨[], []⟩ [] := ⟨Own.nil _ _ _ _, rfl, Own.nil _ _ _ _, fun x hx => by cases hx⟩
/-- A graph and an error. -/
def RetG (g : Grf) (err : Int) (w : World) (e : Ending) (w' : World) : Prop := ∃ vn vt, e = .returned (.tuple #[.agg #[vn, vt], errV err]) ∧ GrfR w' vn vt g ∧ Below w.heap.size w w'
/-- No block that was there has turned, but those of two slices. -/
structure Keep2 (w w' : World) (a b : Value) : Prop where
  s : w.heap.size ≤ w'.heap.size
  k : ∀ k, k < w.heap.size → some k ≠ a.ownBlock → some k ≠ b.ownBlock → w'.heap[k]? = w.heap[k]?
theorem Keep2.below {w w' : World} {a b : Value} (hb : Below w.heap.size w w') : Keep2 w w' a b := ⟨hb.size, fun k hk _ _ => hb.block k hk⟩
theorem Keep2.then {w w1 w2 : World} {a b : Value} (h : Keep2 w w1 a b) (hb : Below w1.heap.size w1 w2) : Keep2 w w2 a b :=
  ⟨Nat.le_trans h.s hb.size, fun k hk h1 h2 => (hb.block k (Nat.lt_of_lt_of_le hk h.s)).trans (h.k k hk h1 h2)⟩
theorem Keep2.grown1 {w w1 w2 : World} {a b : Value} (h : Keep2 w w1 a b) (hg : w1.grownBy w2 a.ownBlock) : Keep2 w w2 a b :=
  ⟨Nat.le_trans h.s hg.size, fun k hk h1 h2 => (hg.block k (Nat.lt_of_lt_of_le hk h.s) h1).trans (h.k k hk h1 h2)⟩
theorem Keep2.grown2 {w w1 w2 : World} {a b : Value} (h : Keep2 w w1 a b) (hg : w1.grownBy w2 b.ownBlock) : Keep2 w w2 a b :=
  ⟨Nat.le_trans h.s hg.size, fun k hk h1 h2 => (hg.block k (Nat.lt_of_lt_of_le hk h.s) h2).trans (h.k k hk h1 h2)⟩
theorem own_len (A : Option Addr) (n n' c : Nat) : (Value.slice A n c).ownBlock = (Value.slice A n' c).ownBlock := by cases A <;> rfl
theorem Keep2.grown1' {w w1 w2 : World} {A : Option Addr} {n n' c : Nat} {b : Value} (h : Keep2 w w1 (.slice A n c) b) (hg : w1.grownBy w2 (Value.slice A n' c).ownBlock) : Keep2 w w2 (.slice A n c) b := h.grown1 (by rw [own_len A n n' c]; exact hg)
theorem Keep2.grown2' {w w1 w2 : World} {A : Option Addr} {n n' c : Nat} {a : Value} (h : Keep2 w w1 a (.slice A n c)) (hg : w1.grownBy w2 (Value.slice A n' c).ownBlock) : Keep2 w w2 a (.slice A n c) := h.grown2 (by rw [own_len A n n' c]; exact hg)
theorem Keep2.box {w w1 : World} {a b : Value} (h : Keep2 w w1 a b) {p : Addr} (hp : w.heap.size ≤ p.block) (u : Value) : Keep2 w (w1.setCell p u) a b :=
  ⟨by have := h.s; simp [World.setCell]; omega, fun k hk h1 h2 => (Below.heap_setCell _ _ _ _ (by omega)).trans (h.k k hk h1 h2)⟩
theorem Keep2.own {w w1 : World} {a b : Value} (h : Keep2 w w1 a b) {p : Addr} (hp : a.ownBlock = some p.block) (u : Value) : Keep2 w (w1.setCell p u) a b :=
  ⟨by have := h.s; simp [World.setCell]; omega, fun k hk h1 h2 => (Below.heap_setCell _ _ _ _ (fun e => h1 (by rw [hp, e]))).trans (h.k k hk h1 h2)⟩
/-- What comes of an op on an owned graph: the new one is owned too, if there is no fault. -/
def RetOG (B : Nat) (a b : Value) (g : Grf) (err : Int) (w : World) (e : Ending) (w' : World) : Prop :=
  ∃ vn vt, e = .returned (.tuple #[.agg #[vn, vt], errV err]) ∧ (err = 0 → ∃ xs, OwnG w' B vn vt g xs) ∧ (∃ A n c A' n' c', vn = .slice A n c ∧ vt = .slice A' n' c') ∧ Below B w w' ∧ Keep2 w w' a b
end Go.Proofs.Ythefofclbepkoaa

/- Contracts: slices.Clone at nodes and at ties, graph.OwnNode, graph.Own. -/
namespace Go.Proofs.Ythefofclbepkoaa
open Go Go.RowKit



theorem clone_nods_info : (Try.prog.info? 46).map (fun i => (i.zero, i.size, i.bytes)) = some (some (.agg #[.int .i64 0, .string .empty, .slice none 0 0]), 3, 48) := by kernel_rfl
set_option maxHeartbeats 2000000 in
theorem clone_nods {w : World} {A : Option Addr} {n c : Nat} {xs : List Value} (hlen : xs.length = n * 3) (h1 : ∀ u ∈ xs, u.oneCell' = true) (hx : 0 < n → ∃ b o, A = some ⟨b, o, none⟩ ∧ ∀ j u, xs[j]? = some u → w.cell? ⟨b, o + j, none⟩ = some u) (hl : n ≤ 1048576) :
    Calls Try.prog 71 #[.slice A n c] w fun e w' => ∃ u, e = .returned u ∧ Own w' w.heap.size 46 3 u n xs ∧ Below w.heap.size w w' := by
  obtain ⟨i0, ei, ez, ez1, ez2⟩ := info_parts clone_nods_info
  have q22 : ∀ (w : World) (a : Option Addr) (n c n' c' : Nat), (binOp .eql 40 (.slice a n c) (.slice none n' c')).run Try.prog w = .ok (.bool a.isNone) w := fun w a n c n' c' => Lib.run_eql_slice_nil w _ _ a n c n' c' Try.underlying40
  cases A with
  | none =>
    have h0 : n = 0 := by
      rcases Nat.eq_zero_or_pos n with h | h
      · exact h
      · obtain ⟨_, _, hA, _⟩ := hx h; cases hA
    subst h0
    have hx0 : xs = [] := List.eq_nil_of_length_eq_zero (by rw [hlen, Nat.zero_mul])
    subst hx0
    clear hx hlen h1
    go_enter Try.func71, Try.ntmps71
    go_wp2_with fail
    go_ret
    exact ⟨_, rfl, Own.nil _ _ _ _, Below.refl _ _⟩
  | some a =>
    have hX : Hid (0 < n → ∃ b o, (some a : Option Addr) = some ⟨b, o, none⟩ ∧ ∀ j u, xs[j]? = some u → w.cell? ⟨b, o + j, none⟩ = some u) := hx
    have hL := Lib.hid hlen
    have h1H := Lib.hid h1
    clear hx hlen h1
    go_enter Try.func71, Try.ntmps71
    go_wp2_with (at_builtin; refine wpList_append_q _ rfl (.tmp 5) (.tmp 6) 40 rfl w.heap.size 46 i0 (.agg #[.int .i64 0, .string .empty, .slice none 0 0]) 3 48 Try.underlying40 ei ez ez1 ez2 rfl (by decide) (.slice (some ⟨w.heap.size, 0, none⟩) 0 0) 0 [] rfl Own.made (some a) n c xs rfl hL.out (fun hp => by
        obtain ⟨b, o, hA, hy⟩ := hX.out hp
        exact ⟨_, hA, fun j u hj => by rw [addr_add]; exact cell_below ((Below.refl _ _).alloc (Nat.le_refl _) _) (hy j u hj)⟩) h1H.out (by unfold maxLen; omega) (by omega) (by simp) ?_; intro v7 w7 hown7 hg7 hat7)
    have hb7 : Below w.heap.size w w7 := ((Below.refl _ _).alloc (Nat.le_refl _) _).grown hg7 (by simp) (fun k hk => Nat.le_of_eq (by simpa [Value.ownBlock] using hk))
    simp only [Nat.zero_add, List.nil_append] at hown7
    clear hg7 hat7
    go_ret
    exact ⟨_, rfl, hown7, hb7⟩
theorem clone_ties_info : (Try.prog.info? 50).map (fun i => (i.zero, i.size, i.bytes)) = some (some (.agg #[.string .empty, .int .i64 0, .int .i64 0]), 3, 32) := by kernel_rfl
set_option maxHeartbeats 2000000 in
theorem clone_ties {w : World} {v : Value} {l : List Tie} (hv : Sl tieL w v l) (hl : l.length ≤ 1048576) : Calls Try.prog 70 #[v] w (CloneR tieL 50 l w) := by
  obtain ⟨i0, ei, ez, ez1, ez2⟩ := info_parts clone_ties_info
  obtain ⟨A, c, rfl, _, _⟩ := hv.form
  obtain ⟨xs, hr, hx⟩ := Row.of_sl hv
  have hlen := hr.len
  have h1 := hr.oneCell one_tie
  have q22 : ∀ (w : World) (a : Option Addr) (n c n' c' : Nat), (binOp .eql 41 (.slice a n c) (.slice none n' c')).run Try.prog w = .ok (.bool a.isNone) w := fun w a n c n' c' => Lib.run_eql_slice_nil w _ _ a n c n' c' Try.underlying41
  cases A with
  | none =>
    have h0 : l = [] := by
      rcases Nat.eq_zero_or_pos l.length with h | h
      · exact List.eq_nil_of_length_eq_zero h
      · obtain ⟨_, _, hA, _⟩ := hx h; cases hA
    subst h0
    clear hv hr hx hlen h1
    go_enter Try.func70, Try.ntmps70
    go_wp2_with fail
    go_ret
    exact ⟨_, [], rfl, Own.nil _ _ _ _, rfl, Below.refl _ _⟩
  | some a =>
    have hX : Hid (0 < l.length → ∃ b o, (some a : Option Addr) = some ⟨b, o, none⟩ ∧ ∀ j u, xs[j]? = some u → w.cell? ⟨b, o + j, none⟩ = some u) := hx
    have hR := Lib.hid hr
    have hL := Lib.hid hlen
    have h1H := Lib.hid h1
    clear hv hr hx hlen h1
    go_enter Try.func70, Try.ntmps70
    go_wp2_with (at_builtin; refine wpList_append_q _ rfl (.tmp 5) (.tmp 6) 41 rfl w.heap.size 50 i0 (.agg #[.string .empty, .int .i64 0, .int .i64 0]) 3 32 Try.underlying41 ei ez ez1 ez2 rfl (by decide) (.slice (some ⟨w.heap.size, 0, none⟩) 0 0) 0 [] rfl Own.made (some a) l.length c xs rfl hL.out (fun hp => by
        obtain ⟨b, o, hA, hy⟩ := hX.out hp
        exact ⟨_, hA, fun j u hj => by rw [addr_add]; exact cell_below ((Below.refl _ _).alloc (Nat.le_refl _) _) (hy j u hj)⟩) h1H.out (by unfold maxLen; omega) (by omega) (by simp) ?_; intro v7 w7 hown7 hg7 hat7)
    have hb7 : Below w.heap.size w w7 := ((Below.refl _ _).alloc (Nat.le_refl _) _).grown hg7 (by simp) (fun k hk => Nat.le_of_eq (by simpa [Value.ownBlock] using hk))
    simp only [Nat.zero_add, List.nil_append] at hown7
    clear hg7 hat7
    go_ret
    exact ⟨_, xs, rfl, hown7, hR.out, hb7⟩
set_option maxHeartbeats 1000000 in
theorem ownNode_any (n : Nod) (v : Value) (w : World) (hv : Sl prpL w v n.props) (hl : n.props.length ≤ 1048576) :
    Calls Try.prog 61 #[.agg #[.int .i64 n.id, .string n.kind, v]] w fun e w' => ∃ u, e = .returned (.agg #[.int .i64 n.id, .string n.kind, u]) ∧ OwnP w' w.heap.size u n.props ∧ Below w.heap.size w w' := by
  have hb0 : Below w.heap.size w ((w.alloc (.cells #[.int .i64 n.id, .string n.kind, v] 46)).alloc (.cells #[.int .i64 0, .string .empty, .slice none 0 0] 46)) := ((Below.refl _ _).alloc (Nat.le_refl _) _).alloc (by simp) _
  have hcl := clone_prps (hv.below hb0) hl
  have g0 : ((w.alloc (.cells #[.int .i64 n.id, .string n.kind, v] 46)).alloc (.cells #[.int .i64 0, .string .empty, .slice none 0 0] 46)).heap[w.heap.size]? = some (.cells #[.int .i64 n.id, .string n.kind, v] 46 (0, 0)) := by
    rw [Below.heap_alloc _ _ _ (by simp)]; exact heap_alloc_new _ _
  have g1 : ((w.alloc (.cells #[.int .i64 n.id, .string n.kind, v] 46)).alloc (.cells #[.int .i64 0, .string .empty, .slice none 0 0] 46)).heap[w.heap.size + 1]? = some (.cells #[.int .i64 0, .string .empty, .slice none 0 0] 46 (0, 0)) := by
    have := heap_alloc_new (w.alloc (.cells #[.int .i64 n.id, .string n.kind, v] 46)) (.cells #[.int .i64 0, .string .empty, .slice none 0 0] 46); simpa using this
  have x0 := block_cell g0 0
  have x1 := block_cell g0 1
  have x2 := block_cell g0 2
  have hsz : ((w.alloc (.cells #[.int .i64 n.id, .string n.kind, v] 46)).alloc (.cells #[.int .i64 0, .string .empty, .slice none 0 0] 46)).heap.size = w.heap.size + 2 := by simp
  obtain ⟨A, c, rfl, _, _⟩ := hv.form
  clear hv
  go_enter Try.func61, Try.ntmps61
  go_wp2_with fail
  refine hcl.mono ?_
  clear hcl
  rintro e w2 ⟨u, xs, rfl, hown, hrow, hb2⟩
  obtain ⟨rfl, hok⟩ := Row.flat hrow
  have hown := Own.mono (B' := w.heap.size) hown (by rw [hsz]; omega)
  have HK := Lib.hid hok
  have g2 := (hb2.block _ (Array.getElem?_eq_some_iff.1 g0).1).trans g0
  have g3 := (hb2.block _ (Array.getElem?_eq_some_iff.1 g1).1).trans g1
  have y0 := block_cell g2 0
  have y1 := block_cell g2 1
  have y2 := block_cell g2 2
  have y3 := block_cell g3 0
  have y4 := block_cell g3 1
  have y5 := block_cell g3 2
  have f2 := block_free g2 2
  have f3 := block_free g3 0
  have f4 := block_free g3 1
  have f5 := block_free g3 2
  have hB2 := hb0.trans (hb2.mono hb0.size)
  have HO : Hid (∀ W, Same 26 w2 W → OwnP W w.heap.size u n.props) := fun W hs => ⟨Own.same hown hs, HK.out⟩
  obtain ⟨A2, c2, rfl, _, _⟩ := hown.form
  have hsame : ∀ W : World, W = ((((w2.setCell ⟨w.heap.size, 2, none⟩ (.slice A2 n.props.length c2)).setCell ⟨w.heap.size + 1, 0, none⟩ (.int .i64 n.id)).setCell ⟨w.heap.size + 1, 1, none⟩ (.string n.kind)).setCell ⟨w.heap.size + 1, 2, none⟩ (.slice A2 n.props.length c2)) → Same 26 w2 W := by
    rintro W rfl
    have k0 := setCell_block g2 2 (.slice A2 n.props.length c2)
    have s0 := Same.setCell (T := 26) (p := ⟨w.heap.size, 2, none⟩) g2 (by decide) (.slice A2 n.props.length c2)
    have k1 : (w2.setCell ⟨w.heap.size, 2, none⟩ (.slice A2 n.props.length c2)).heap[w.heap.size + 1]? = some (.cells #[.int .i64 0, .string .empty, .slice none 0 0] 46 (0, 0)) := by rw [Below.heap_setCell _ _ _ _ (by simp)]; exact g3
    have s1 := Same.setCell (T := 26) (p := ⟨w.heap.size + 1, 0, none⟩) k1 (by decide) (.int .i64 n.id)
    have k2 := setCell_block k1 0 (.int .i64 n.id)
    have s2 := Same.setCell (T := 26) (p := ⟨w.heap.size + 1, 1, none⟩) k2 (by decide) (.string n.kind)
    have k3 := setCell_block k2 1 (.string n.kind)
    have s3 := Same.setCell (T := 26) (p := ⟨w.heap.size + 1, 2, none⟩) k3 (by decide) (.slice A2 n.props.length c2)
    exact s0.trans (s1.trans (s2.trans s3))
  have HS := Lib.hid hsame
  have G3 := Lib.hid g3
  clear hown hrow hok g0 g1 g2 g3 x0 x1 x2 hsame
  go_wp2_with fail
  have h3 : ((((w2.setCell ⟨w.heap.size, 2, none⟩ (.slice A2 n.props.length c2)).setCell ⟨w.heap.size + 1, 0, none⟩ (.int .i64 n.id)).setCell ⟨w.heap.size + 1, 1, none⟩ (.string n.kind)).setCell ⟨w.heap.size + 1, 2, none⟩ (.slice A2 n.props.length c2)).heap[w.heap.size + 1]? = some (.cells #[.int .i64 n.id, .string n.kind, .slice A2 n.props.length c2] 46 (0, 0)) := by
    have k1 : (w2.setCell ⟨w.heap.size, 2, none⟩ (.slice A2 n.props.length c2)).heap[w.heap.size + 1]? = some (.cells #[.int .i64 0, .string .empty, .slice none 0 0] 46 (0, 0)) := by rw [Below.heap_setCell _ _ _ _ (by simp)]; exact G3.out
    exact setCell_block (setCell_block (setCell_block k1 0 (.int .i64 n.id)) 1 (.string n.kind)) 2 (.slice A2 n.props.length c2)
  have k2 := block_cell h3 0
  have k3 := block_cell h3 1
  have k4 := block_cell h3 2
  exact bodyPost_ret (v := .agg #[.int .i64 n.id, .string n.kind, .slice A2 n.props.length c2]) (by simp [results, Try.results61, go_sem, k2, k3, k4]) rfl ⟨_, rfl, HO.out _ (HS.out _ rfl), (((hB2.setCell (p := ⟨w.heap.size, 2, none⟩) (Nat.le_refl _) _).setCell (p := ⟨w.heap.size + 1, 0, none⟩) (by show w.heap.size ≤ w.heap.size + 1; omega) _).setCell (p := ⟨w.heap.size + 1, 1, none⟩) (by show w.heap.size ≤ w.heap.size + 1; omega) _).setCell (p := ⟨w.heap.size + 1, 2, none⟩) (by show w.heap.size ≤ w.heap.size + 1; omega) _⟩
end Go.Proofs.Ythefofclbepkoaa

/- Contract: graph.Node. -/
namespace Go.Proofs.Ythefofclbepkoaa
open Go Go.RowKit

def zeroN : Nod := ⟨0, .empty, []⟩
def nodeE (g : Grf) (id : Int) : Int := if grfE g = 0 then (if fhas g.nodes id then 0 else 5) else grfE g
def nodeR (g : Grf) (id : Int) : Nod := if nodeE g id = 0 then (g.nodes[fpos g.nodes id]?).getD zeroN else zeroN
theorem nod_rec2 {n : Nod} (h : nodE n = 0) : recE n.props = 0 := by
  unfold nodE at h
  split at h
  · omega
  · split at h
    · exact h
    · rename_i h2; exact absurd h h2
/-- A node and an error. -/
def RetN (n : Nod) (err : Int) (w : World) (e : Ending) (w' : World) : Prop := ∃ u, e = .returned (.tuple #[.agg #[.int .i64 n.id, .string n.kind, u], errV err]) ∧ Sl prpL w' u n.props ∧ Below w.heap.size w w'
end Go.Proofs.Ythefofclbepkoaa

/- Plain: a graph of which the nodes are gone one by one. -/
namespace Go.Proofs.Ythefofclbepkoaa

theorem nodsE_weak {p : Option Nod} {l : List Nod} (h : nodsE p l = 0) : nodsE none l = 0 := by
  cases l with
  | nil => rfl
  | cons n r =>
    obtain ⟨h1, h2, h3, _⟩ := nodsE_step h
    have e : nodsE none (n :: r) = if idB n.id = false then 1 else if nodE n = 0 then nodsE (some n) r else nodE n := rfl
    rw [e, if_neg (by simp [h1]), if_pos h2, h3]
theorem nodsE_drop : ∀ (k : Nat) {p : Option Nod} {l : List Nod}, nodsE p l = 0 → nodsE none (l.drop k) = 0
  | 0, _, _, h => nodsE_weak h
  | k + 1, _, [], _ => rfl
  | k + 1, _, n :: r, h => nodsE_drop k (nodsE_step h).2.2.1
theorem tiesE_filter (f : Tie → Bool) : ∀ {l : List Tie} {p q : Option Tie}, (∀ a, p = some a → q = some a ∨ ∃ b, q = some b ∧ tieO a b < 0) → (p = none → True) → tiesE q l = 0 → tiesE p (l.filter f) = 0
  | [], p, q, _, _, _ => by cases p <;> rfl
  | t :: r, p, q, hp, _, h => by
    obtain ⟨s1, s2, s3⟩ := tiesE_step h
    have hlt : ∀ a, p = some a → tieO a t < 0 := fun a ha => by
      rcases hp a ha with hq | ⟨b, hq, hab⟩
      · have := s3 a hq; unfold tieLt at this; exact of_decide_eq_true this
      · have := s3 b hq; unfold tieLt at this; exact tieO_trans hab (of_decide_eq_true this)
    rw [List.filter_cons]
    by_cases hf : f t = true
    · rw [if_pos hf]
      have e : tiesE p (t :: r.filter f) = if tieE t = 0 then (if (match p with | some q => decide (0 ≤ tieO q t) | none => false) then 7 else tiesE (some t) (r.filter f)) else tieE t := by cases p <;> rfl
      rw [e, if_pos s1]
      have ih := tiesE_filter f (l := r) (p := some t) (q := some t) (fun a ha => .inl ha) (fun _ => trivial) s2
      cases p with
      | none => simpa using ih
      | some a =>
        have h1 := hlt a rfl
        have h2 : decide (0 ≤ tieO a t) = false := decide_eq_false (by omega)
        show (if decide (0 ≤ tieO a t) = true then (7 : Int) else tiesE (some t) (r.filter f)) = 0
        rw [h2]; simpa using ih
    · rw [if_neg hf]
      exact tiesE_filter f (l := r) (p := p) (q := some t) (fun a ha => .inr ⟨t, rfl, hlt a ha⟩) (fun _ => trivial) s2
def cutG (g : Grf) (k : Nat) : Grf := ⟨g.nodes.drop k, g.ties.filter fun t => !((g.nodes.take k).any fun n => touch n.id t)⟩
theorem cut_zero (g : Grf) : cutG g 0 = g := by
  unfold cutG
  have : g.ties.filter (fun t => !((g.nodes.take 0).any fun n => touch n.id t)) = g.ties := List.filter_eq_self.2 (fun a _ => by simp)
  rw [this, List.drop_zero]
theorem cut_right {g : Grf} (h : grfE g = 0) (k : Nat) : grfE (cutG g k) = 0 := by
  obtain ⟨h1, h2⟩ := grf_parts h
  obtain ⟨l1, l2, _, _⟩ := grf_ok h
  have e1 : nodsE none (cutG g k).nodes = 0 := nodsE_drop k h1
  have e2 : tiesE none (cutG g k).ties = 0 := tiesE_filter _ (q := none) (fun a ha => by cases ha) (fun _ => trivial) h2
  unfold grfE
  have l3 : (cutG g k).nodes.length ≤ 60 := by unfold cutG; simp; omega
  have l4 : (cutG g k).ties.length ≤ 120 := Nat.le_trans (List.length_filter_le _ _) l2
  rw [if_neg (by omega), e1, if_pos rfl, e2]
theorem fpos_head {l : List Nod} {n : Nod} {r : List Nod} (h : l = n :: r) : fpos l n.id = 0 ∧ fhas l n.id = true := by
  subst h
  have h0 : nodC n.id n = 0 := by unfold nodC; exact cmpI_zero.2 rfl
  have h1 : fpos (n :: r) n.id = 0 := by
    unfold fpos lowI
    rw [List.findIdx_cons]
    simp [h0]
  refine ⟨h1, ?_⟩
  unfold fhas
  rw [h1]
  unfold eqAt
  simp [h0]
theorem cut_step {g : Grf} {k : Nat} {n : Nod} (hd : g.nodes[k]? = some n) : goneG (cutG g k) n.id = cutG g (k + 1) ∧ fhas (cutG g k).nodes n.id = true := by
  have hc : (cutG g k).nodes = n :: g.nodes.drop (k + 1) := drop_cons hd
  obtain ⟨h1, h2⟩ := fpos_head hc
  refine ⟨?_, h2⟩
  unfold goneG
  rw [h1, hc]
  unfold cutG
  simp only [List.take_zero, List.nil_append, List.drop_succ_cons, List.drop_zero, List.filter_filter]
  rw [take_snoc hd]
  congr 1
  apply List.filter_congr
  intro t _
  rw [List.any_append]
  simp only [List.any_cons, List.any_nil, Bool.or_false, Bool.not_or]
  exact Bool.and_comm _ _
theorem beq_swap (a b : Int) : (a == b) = (b == a) := by
  rcases Int.decEq a b with h | h
  · rw [beq_eq_false_iff_ne.2 h, beq_eq_false_iff_ne.2 (Ne.symm h)]
  · subst h; rfl
def looseN (g : Grf) : Nat := (g.ties.filter fun t => !(fhas g.nodes t.src) && !(fhas g.nodes t.dst)).length
theorem chain_lt2 {l : List Nod} (hc : chain nodLt l = true) : ∀ {i j : Nat} {a b : Nod}, i < j → l[i]? = some a → l[j]? = some b → a.id < b.id := by
  intro i j
  induction j with
  | zero => intro a b h; omega
  | succ j ih =>
    intro a b h ha hb
    have hj : j < l.length := by have := (List.getElem?_eq_some_iff.1 hb).1; omega
    have h1 := chain_iff.1 hc j l[j] b (List.getElem?_eq_getElem hj) hb
    simp only [nodLt, decide_eq_true_eq] at h1
    rcases Nat.lt_or_ge i j with h2 | h2
    · have := ih (b := l[j]) h2 ha (List.getElem?_eq_getElem hj); omega
    · obtain rfl : i = j := by omega
      have := ha.symm.trans (List.getElem?_eq_getElem hj)
      cases this
      exact h1
theorem fhas_any {l : List Nod} (hc : chain nodLt l = true) (id : Int) : fhas l id = l.any fun n => n.id == id := by
  cases hq : fhas l id with
  | true =>
    obtain ⟨n, hn⟩ := fhas_some' hq
    have h0 : nodC id n = 0 := by
      unfold fhas eqAt at hq
      rw [hn] at hq
      simpa using hq
    have := (cmpI_zero (a := n.id) (b := id)).1 h0
    exact (List.any_eq_true.2 ⟨n, List.mem_of_getElem? hn, by simp [this]⟩).symm
  | false =>
    symm
    rw [List.any_eq_false]
    intro n hn
    obtain ⟨i, hi⟩ := List.mem_iff_getElem?.1 hn
    simp only [beq_iff_eq]
    intro he
    have h0 : nodC id n = 0 := cmpI_zero.2 he
    rcases Nat.lt_trichotomy i (fpos l id) with h | h | h
    · have := low_lt (c := nodC id) h hi; omega
    · subst h
      unfold fhas eqAt at hq
      rw [hi] at hq
      simp [h0] at hq
    · have hlt : fpos l id < l.length := by have := (List.getElem?_eq_some_iff.1 hi).1; omega
      obtain ⟨m, hm⟩ : ∃ m, l[fpos l id]? = some m := ⟨_, List.getElem?_eq_getElem hlt⟩
      have h1 := low_ge (c := nodC id) hc (nodC_mono id) (Nat.le_refl _) hm
      have h2 : ¬ nodC id m = 0 := by
        unfold fhas eqAt at hq
        rw [hm] at hq
        simpa using hq
      have h3 := chain_lt2 hc h hm hi
      unfold nodC at h0 h1 h2
      have a1 := (cmpI_zero (a := n.id) (b := id)).1 h0
      have a2 := @cmpI_neg m.id id
      have a3 := @cmpI_zero m.id id
      have a4 : ¬ m.id < id := fun h => by have := a2.2 h; omega
      have a5 : ¬ m.id = id := fun h => h2 (a3.2 h)
      omega
theorem cut_all {g : Grf} (h : grfE g = 0) : (cutG g g.nodes.length).nodes = [] ∧ (cutG g g.nodes.length).ties.length = looseN g := by
  obtain ⟨_, _, hc, _⟩ := grf_ok h
  refine ⟨by unfold cutG; simp, ?_⟩
  unfold cutG looseN
  rw [List.take_length]
  congr 1
  apply List.filter_congr
  intro t _
  rw [fhas_any hc, fhas_any hc]
  unfold touch
  simp only [← Bool.not_or]
  congr 1
  induction g.nodes with
  | nil => rfl
  | cons n r ih =>
    simp only [List.any_cons, ih]
    have e1 : (t.src == n.id) = (n.id == t.src) := beq_swap _ _
    have e2 : (t.dst == n.id) = (n.id == t.dst) := beq_swap _ _
    rw [e1, e2]
    cases (n.id == t.src) <;> cases (n.id == t.dst) <;> simp
end Go.Proofs.Ythefofclbepkoaa
