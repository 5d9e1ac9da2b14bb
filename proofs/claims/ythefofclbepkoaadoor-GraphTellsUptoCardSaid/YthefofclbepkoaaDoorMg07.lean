/- Parts: CloA, Same, RecS, RecT. -/
import Derived.Test.YthefofclbepkoaaDoorMg06
import Derived.Test.YthefofclbepkoaaDoorMg05
import Derived.WalkSpells
import Derived.Test.YthefofclbepkoaaDoorRows
import Derived.Lib.SliceRun
import Derived.Test.YthefofclbepkoaaDoorMg04
import Derived.Test.YthefofclbepkoaaDoorMg02
/- Plain: rows of structs, cell by cell: a list's cells, one behind the other; slices.Clone. No condition. -/
namespace Go.Proofs.YthefofclbepkoaaDoor
open Go Go.RowKit

section
variable {D : Type} {L : Lay D}
/-- The cells xs are the list's, one behind the other. -/
def Row (L : Lay D) (w : World) : List D → List Value → Prop
  | [], xs => xs = []
  | d :: l, xs => ∃ cs ys, xs = cs ++ ys ∧ L.cells w d cs ∧ Row L w l ys
theorem Row.nil (w : World) : Row L w [] [] := rfl
theorem Row.len {w : World} : ∀ {l : List D} {xs : List Value}, Row L w l xs → xs.length = l.length * L.sz
  | [], xs, h => by rw [show xs = [] from h]; simp
  | d :: l, xs, h => by
    obtain ⟨cs, ys, rfl, hc, hr⟩ := h
    rw [List.length_append, L.len hc, hr.len, List.length_cons, Nat.add_mul]; omega
theorem Row.one {w : World} {d : D} {cs : List Value} (h : L.cells w d cs) : Row L w [d] cs := ⟨cs, [], by simp, h, rfl⟩
theorem Row.append {w : World} : ∀ {l m : List D} {xs ys : List Value}, Row L w l xs → Row L w m ys → Row L w (l ++ m) (xs ++ ys)
  | [], m, xs, ys, h, k => by rw [show xs = [] from h]; simpa using k
  | d :: l, m, xs, ys, h, k => by
    obtain ⟨cs, zs, rfl, hc, hr⟩ := h
    exact ⟨cs, zs ++ ys, by simp, hc, hr.append k⟩
theorem Row.below {w w' : World} (hb : Below w.heap.size w w') : ∀ {l : List D} {xs : List Value}, Row L w l xs → Row L w' l xs
  | [], _, h => h
  | _ :: _, _, h => by
    obtain ⟨cs, zs, rfl, hc, hr⟩ := h
    exact ⟨cs, zs, rfl, L.below hb hc, hr.below hb⟩
theorem Row.split {w : World} : ∀ {l : List D} {xs : List Value} (i : Nat), i ≤ l.length → Row L w l xs → Row L w (l.take i) (xs.take (i * L.sz)) ∧ Row L w (l.drop i) (xs.drop (i * L.sz))
  | l, xs, 0, _, h => by simpa using ⟨Row.nil w, h⟩
  | [], xs, i + 1, hi, h => by simp at hi
  | d :: l, xs, i + 1, hi, h => by
    obtain ⟨cs, ys, rfl, hc, hr⟩ := h
    have hl := L.len hc
    obtain ⟨h1, h2⟩ := hr.split i (by simpa using hi)
    have e : (i + 1) * L.sz = cs.length + i * L.sz := by rw [hl, Nat.add_mul]; omega
    rw [e, List.take_length_add_append, List.drop_length_add_append]
    exact ⟨⟨cs, _, rfl, hc, h1⟩, h2⟩
theorem Row.take {w : World} {l : List D} {xs : List Value} (h : Row L w l xs) (i : Nat) (hi : i ≤ l.length) : Row L w (l.take i) (xs.take (i * L.sz)) := (h.split i hi).1
theorem Row.drop {w : World} {l : List D} {xs : List Value} (h : Row L w l xs) (i : Nat) (hi : i ≤ l.length) : Row L w (l.drop i) (xs.drop (i * L.sz)) := (h.split i hi).2
theorem Row.get {w : World} : ∀ {l : List D} {xs : List Value} {i : Nat} {d : D}, Row L w l xs → l[i]? = some d → ∃ cs, L.cells w d cs ∧ ∀ j u, cs[j]? = some u → xs[i * L.sz + j]? = some u
  | [], _, i, d, _, h => by simp at h
  | e :: l, xs, 0, d, h, hd => by
    obtain ⟨cs, ys, rfl, hc, hr⟩ := h
    simp at hd; subst hd
    exact ⟨cs, hc, fun j u hj => by rw [Nat.zero_mul, Nat.zero_add, List.getElem?_append_left (List.getElem?_eq_some_iff.1 hj).1]; exact hj⟩
  | e :: l, xs, i + 1, d, h, hd => by
    obtain ⟨cs, ys, rfl, hc, hr⟩ := h
    obtain ⟨cs', hc', hx⟩ := hr.get (i := i) (by simpa using hd)
    refine ⟨cs', hc', fun j u hj => ?_⟩
    have hl := L.len hc
    rw [List.getElem?_append_right (by rw [hl, Nat.add_mul]; omega)]
    have : (i + 1) * L.sz + j - cs.length = i * L.sz + j := by rw [hl, Nat.add_mul]; omega
    rw [this]
    exact hx j u hj
theorem Row.insert {w : World} {l : List D} {xs cs : List Value} {d : D} (h : Row L w l xs) (i : Nat) (hi : i ≤ l.length) (hc : L.cells w d cs) : Row L w (l.take i ++ d :: l.drop i) (xs.take (i * L.sz) ++ cs ++ xs.drop (i * L.sz)) := by
  rw [List.append_assoc]
  exact (h.take i hi).append ((Row.one hc).append (h.drop i hi))
theorem Row.snoc {w : World} {l : List D} {xs cs : List Value} {d : D} (h : Row L w l xs) (hc : L.cells w d cs) : Row L w (l ++ [d]) (xs ++ cs) := h.append (Row.one hc)
/-- What an element's cells may be. -/
def OneL (L : Lay D) : Prop := ∀ w d cs, L.cells w d cs → ∀ u ∈ cs, u.oneCell' = true
theorem Row.oneCell (h1 : OneL L) {w : World} : ∀ {l : List D} {xs : List Value}, Row L w l xs → ∀ u ∈ xs, u.oneCell' = true
  | [], xs, h, u, hu => by rw [show xs = [] from h] at hu; simp at hu
  | d :: l, xs, h, u, hu => by
    obtain ⟨cs, ys, rfl, hc, hr⟩ := h
    rcases List.mem_append.1 hu with hu | hu
    · exact h1 _ _ _ hc u hu
    · exact hr.oneCell h1 u hu
theorem row_of_all {w : World} {b : Nat} : ∀ {l : List D} {o : Nat}, (∀ k d, l[k]? = some d → ∃ cs, L.cells w d cs ∧ ∀ j u, cs[j]? = some u → w.cell? ⟨b, o + (k * L.sz + j), none⟩ = some u) →
    ∃ xs, Row L w l xs ∧ ∀ j u, xs[j]? = some u → w.cell? ⟨b, o + j, none⟩ = some u
  | [], o, _ => ⟨[], rfl, fun j u h => by simp at h⟩
  | d :: l, o, h => by
    obtain ⟨cs, hc, hx⟩ := h 0 d rfl
    obtain ⟨xs, hr, hy⟩ := row_of_all (b := b) (l := l) (o := o + L.sz) (fun k d hk => by
      obtain ⟨cs', hc', hx'⟩ := h (k + 1) d (by simpa using hk)
      refine ⟨cs', hc', fun j u hj => ?_⟩
      rw [← hx' j u hj]
      have : o + L.sz + (k * L.sz + j) = o + ((k + 1) * L.sz + j) := by rw [Nat.add_mul]; omega
      rw [this])
    refine ⟨cs ++ xs, ⟨cs, xs, rfl, hc, hr⟩, fun j u hj => ?_⟩
    have hl := L.len hc
    by_cases hjl : j < cs.length
    · rw [List.getElem?_append_left hjl] at hj
      have := hx j u hj
      rwa [Nat.zero_mul, Nat.zero_add] at this
    · rw [List.getElem?_append_right (by omega)] at hj
      rw [← hy _ u hj]
      have : o + L.sz + (j - cs.length) = o + j := by omega
      rw [this]
theorem Row.of_sl {w : World} {A : Option Addr} {n c : Nat} {l : List D} (h : Sl L w (.slice A n c) l) : ∃ xs, Row L w l xs ∧ (0 < l.length → ∃ b o, A = some ⟨b, o, none⟩ ∧ ∀ j u, xs[j]? = some u → w.cell? ⟨b, o + j, none⟩ = some u) := by
  by_cases hn : 0 < l.length
  · obtain ⟨b, o, hA, hall⟩ := h.all hn
    obtain ⟨xs, hr, hx⟩ := row_of_all hall
    exact ⟨xs, hr, fun _ => ⟨b, o, hA, hx⟩⟩
  · have : l = [] := List.eq_nil_of_length_eq_zero (by omega)
    subst this
    exact ⟨[], rfl, fun h => absurd h hn⟩
theorem Own.row {w : World} {B : Nat} {e : TypeId} {v : Value} {l : List D} {xs : List Value} (h : Own w B e L.sz v l.length xs) (hr : Row L w l xs) : Sl L w v l := by
  obtain ⟨A, c, rfl, h1, h2⟩ := h.form
  refine ⟨A, c, rfl, h1, h2, fun i d hi => ?_⟩
  obtain ⟨g, o, c', hv, _, _⟩ := h.addr (len_pos hi)
  injection hv with hA _ hc
  subst hA; subst hc
  obtain ⟨cs, hc, hx⟩ := hr.get hi
  exact ⟨g, o, cs, rfl, hc, fun j u hj => h.cell rfl (hx j u hj)⟩
end
theorem Row.flat {D : Type} {n : Nat} {ok : D → Prop} {enc : D → List Value} {hn : ∀ d, (enc d).length = n} {w : World} : ∀ {l : List D} {xs : List Value}, Row (flatL n ok enc hn) w l xs → xs = l.flatMap enc ∧ ∀ x ∈ l, ok x
  | [], xs, h => ⟨h, fun x hx => by simp at hx⟩
  | d :: l, xs, h => by
    obtain ⟨cs, ys, rfl, ⟨rfl, ho⟩, hr⟩ := h
    obtain ⟨rfl, hk⟩ := Row.flat hr
    refine ⟨by simp, fun x hx => ?_⟩
    rcases List.mem_cons.1 hx with rfl | hx
    · exact ho
    · exact hk x hx
theorem one_knd : OneL kndL := by
  rintro w d cs ⟨v, u, rfl, _, h2, h3⟩ x hx
  obtain ⟨_, _, rfl, _⟩ := h2
  obtain ⟨_, _, rfl, _⟩ := h3
  simp at hx
  rcases hx with rfl | rfl | rfl <;> rfl
theorem one_nod : OneL nodL := by
  rintro w d cs ⟨v, rfl, _, _, h3⟩ x hx
  obtain ⟨_, _, rfl, _⟩ := h3
  simp at hx
  rcases hx with rfl | rfl | rfl <;> rfl
theorem one_flat {D : Type} {n : Nat} {ok : D → Prop} {enc : D → List Value} {hn : ∀ d, (enc d).length = n} (h1 : ∀ d, ∀ u ∈ enc d, u.oneCell' = true) : OneL (flatL n ok enc hn) := by
  rintro w d cs ⟨rfl, _⟩ x hx
  exact h1 d x hx
theorem one_str : OneL strL := one_flat fun d u hu => by simp at hu; subst hu; rfl
theorem one_int : OneL intL := one_flat fun d u hu => by simp at hu; subst hu; rfl
theorem one_prp : OneL prpL := one_flat Prp.enc_one
theorem one_fld : OneL fldL := one_flat Fld.enc_one
theorem one_tie : OneL tieL := one_flat Tie.enc_one
theorem one_bnd : OneL bndL := one_flat Bnd.enc_one
theorem one_sl {D : Type} (L : Lay D) : OneL (slL L) := by
  rintro w d cs ⟨v, rfl, h⟩ x hx
  obtain ⟨_, _, rfl, _⟩ := h
  simp at hx; subst hx; rfl

/-- A copy of the call's own. -/
def CloneR {D : Type} (L : Lay D) (e : TypeId) (l : List D) (w : World) (ed : Ending) (w' : World) : Prop :=
  ∃ v xs, ed = .returned v ∧ Own w' w.heap.size e L.sz v l.length xs ∧ Row L w l xs ∧ Below w.heap.size w w'
theorem Own.made {w : World} {e : TypeId} {sz : Nat} : Own (w.alloc (.cells #[] e)) w.heap.size e sz (.slice (some ⟨w.heap.size, 0, none⟩) 0 0) 0 [] :=
  ⟨by simp, .inr ⟨_, 0, 0, #[], rfl, Nat.le_refl _, heap_alloc_new _ _, Nat.le_refl _, Nat.zero_le _, by simp, by simp⟩⟩

theorem clone_knds_info : (Tryd.prog.info? 42).map (fun i => (i.zero, i.size, i.bytes)) = some (some (.agg #[.string .empty, .slice none 0 0, .slice none 0 0]), 3, 64) := by kernel_rfl
set_option maxHeartbeats 2000000 in
theorem clone_knds {w : World} {v : Value} {l : List Knd} (hv : Sl kndL w v l) (hl : l.length ≤ 1048576) : Calls Tryd.prog 139 #[v] w (CloneR kndL 42 l w) := by
  obtain ⟨i0, ei, ez, ez1, ez2⟩ := info_parts clone_knds_info
  obtain ⟨A, c, rfl, _, _⟩ := hv.form
  obtain ⟨xs, hr, hx⟩ := Row.of_sl hv
  have hlen := hr.len
  have h1 := hr.oneCell one_knd
  have q22 : ∀ (w : World) (a : Option Addr) (n c n' c' : Nat), (binOp .eql 22 (.slice a n c) (.slice none n' c')).run Tryd.prog w = .ok (.bool a.isNone) w := fun w a n c n' c' => Lib.run_eql_slice_nil w _ _ a n c n' c' Tryd.underlying22
  cases A with
  | none =>
    have h0 : l = [] := by
      rcases Nat.eq_zero_or_pos l.length with h | h
      · exact List.eq_nil_of_length_eq_zero h
      · obtain ⟨_, _, hA, _⟩ := hx h; cases hA
    subst h0
    clear hv hr hx hlen h1
    go_enter Tryd.func139, Tryd.ntmps139
    go_wp2_with fail
    go_ret
    exact ⟨_, [], rfl, Own.nil _ _ _ _, rfl, Below.refl _ _⟩
  | some a =>
    have hX : Hid (0 < l.length → ∃ b o, (some a : Option Addr) = some ⟨b, o, none⟩ ∧ ∀ j u, xs[j]? = some u → w.cell? ⟨b, o + j, none⟩ = some u) := hx
    have hR := Lib.hid hr
    have hL := Lib.hid hlen
    have h1H := Lib.hid h1
    clear hv hr hx hlen h1
    go_enter Tryd.func139, Tryd.ntmps139
    go_wp2_with (at_builtin; refine wpList_append_q _ rfl (.tmp 5) (.tmp 6) 22 rfl w.heap.size 42 i0 (.agg #[.string .empty, .slice none 0 0, .slice none 0 0]) 3 64 Tryd.underlying22 ei ez ez1 ez2 rfl (by decide) (.slice (some ⟨w.heap.size, 0, none⟩) 0 0) 0 [] rfl Own.made (some a) l.length c xs rfl hL.out (fun hp => by
        obtain ⟨b, o, hA, hy⟩ := hX.out hp
        exact ⟨_, hA, fun j u hj => by rw [addr_add]; exact cell_below ((Below.refl _ _).alloc (Nat.le_refl _) _) (hy j u hj)⟩) h1H.out (by unfold maxLen; omega) (by omega) (by simp) ?_; intro v7 w7 hown7 hg7 hat7)
    have hb7 : Below w.heap.size w w7 := ((Below.refl _ _).alloc (Nat.le_refl _) _).grown hg7 (by simp) (fun k hk => Nat.le_of_eq (by simpa [Value.ownBlock] using hk))
    simp only [Nat.zero_add, List.nil_append] at hown7
    clear hg7 hat7
    go_ret
    exact ⟨_, xs, rfl, hown7, hR.out, hb7⟩
end Go.Proofs.YthefofclbepkoaaDoor

/- Plain: blocks of one element type stay as they are where only blocks of other types are written. No condition. -/
namespace Go.Proofs.YthefofclbepkoaaDoor
open Go Go.RowKit

/-- All blocks of cells of type T are as they were. -/
def Same (T : TypeId) (w w' : World) : Prop := ∀ (k : Nat) c fr, w.heap[k]? = some (.cells c T fr) → w'.heap[k]? = some (.cells c T fr)
theorem Same.refl (T : TypeId) (w : World) : Same T w w := fun _ _ _ h => h
theorem Same.trans {T : TypeId} {a b c : World} (h : Same T a b) (k : Same T b c) : Same T a c := fun i x fr hx => k i x fr (h i x fr hx)
theorem Same.below {T : TypeId} {w w' : World} (hb : Below w.heap.size w w') : Same T w w' := fun k _ _ h => (hb.block k (Array.getElem?_eq_some_iff.1 h).1).trans h
theorem Same.alloc {T : TypeId} (w : World) (o : Obj) : Same T w (w.alloc o) := .below ((Below.refl _ _).alloc (Nat.le_refl _) _)
theorem Same.drewN {T : TypeId} (w : World) (n : Nat) : Same T w (w.drewN n) := fun _ _ _ h => h
theorem Same.drew {T : TypeId} (w : World) : Same T w w.drew := fun _ _ _ h => h
theorem Same.grown {T e : TypeId} {w w' : World} {B sz n : Nat} {v : Value} {xs : List Value} (ho : Own w B e sz v n xs) (hne : e ≠ T) (hg : w.grownBy w' v.ownBlock) : Same T w w' := fun k c fr h => by
  have hlt := (Array.getElem?_eq_some_iff.1 h).1
  refine (hg.block k hlt fun e' => ?_).trans h
  rcases ho.2 with ⟨rfl, _⟩ | ⟨g, o, cap, cur, rfl, _, hg2, _⟩
  · simp [Value.ownBlock] at e'
  · simp [Value.ownBlock] at e'
    subst e'
    rw [h] at hg2
    injection hg2 with hg2
    injection hg2 with _ h2 _
    exact hne h2.symm
theorem Same.setCell {T e : TypeId} {w : World} {p : Addr} {c : Array Value} {fr : Nat × Nat} (hp : w.heap[p.block]? = some (.cells c e fr)) (hne : e ≠ T) (u : Value) : Same T w (w.setCell p u) := fun k c' fr' h => by
  refine (Below.heap_setCell w p u k (fun e' => ?_)).trans h
  subst e'
  rw [h] at hp
  injection hp with hp
  injection hp with _ h2 _
  exact hne h2.symm
theorem Own.same {w w' : World} {B : Nat} {e : TypeId} {sz : Nat} {v : Value} {n : Nat} {xs : List Value} (h : Own w B e sz v n xs) (hs : Same e w w') : Own w' B e sz v n xs := by
  refine ⟨h.1, ?_⟩
  rcases h.2 with hn | ⟨g, o, cap, cur, rfl, hb, hg, rest⟩
  · exact .inl hn
  · exact .inr ⟨g, o, cap, cur, rfl, hb, hs g cur _ hg, rest⟩

/-- Nodes of which each one's record is the call's own. -/
def OwnNods (w : World) (B : Nat) : List Nod → List Value → Prop
  | [], xs => xs = []
  | d :: l, xs => ∃ u ys, xs = [.int .i64 d.id, .string d.kind, u] ++ ys ∧ I64 d.id ∧ Sm d.kind ∧ (∀ p ∈ d.props, p.ok) ∧ Own w B 107 4 u d.props.length (d.props.flatMap Prp.enc) ∧ OwnNods w B l ys
theorem OwnNods.same {w w' : World} {B : Nat} (hs : Same 107 w w') : ∀ {l : List Nod} {xs : List Value}, OwnNods w B l xs → OwnNods w' B l xs
  | [], _, h => h
  | _ :: _, _, h => by
    obtain ⟨u, ys, rfl, h1, h2, h3, h4, h5⟩ := h
    exact ⟨u, ys, rfl, h1, h2, h3, h4.same hs, h5.same hs⟩
theorem OwnNods.snoc {w : World} {B : Nat} {d : Nod} {u : Value} (h1 : I64 d.id) (h2 : Sm d.kind) (h3 : ∀ p ∈ d.props, p.ok) (h4 : Own w B 107 4 u d.props.length (d.props.flatMap Prp.enc)) :
    ∀ {l : List Nod} {xs : List Value}, OwnNods w B l xs → OwnNods w B (l ++ [d]) (xs ++ [.int .i64 d.id, .string d.kind, u])
  | [], xs, h => by rw [show xs = [] from h]; exact ⟨u, [], by simp, h1, h2, h3, h4, rfl⟩
  | e :: l, xs, h => by
    obtain ⟨v, ys, rfl, k1, k2, k3, k4, k5⟩ := h
    exact ⟨v, ys ++ [.int .i64 d.id, .string d.kind, u], by simp, k1, k2, k3, k4, k5.snoc h1 h2 h3 h4⟩
theorem OwnNods.row {w : World} {B : Nat} : ∀ {l : List Nod} {xs : List Value}, OwnNods w B l xs → Row nodL w l xs
  | [], _, h => h
  | _ :: _, _, h => by
    obtain ⟨u, ys, rfl, h1, h2, h3, h4, h5⟩ := h
    exact ⟨_, ys, rfl, ⟨u, rfl, h1, h2, h4.prps h3⟩, h5.row⟩
theorem Own.nods {w : World} {B B' : Nat} {e : TypeId} {v : Value} {l : List Nod} {xs : List Value} (h : Own w B e 3 v l.length xs) (hn : OwnNods w B' l xs) : Sl nodL w v l := Own.row (L := nodL) h hn.row
theorem own_of_block {w : World} {b B : Nat} {e : TypeId} {sz n : Nat} {cs : List Value} (h : w.heap[b]? = some (.cells cs.toArray e (0, 0))) (hB : B ≤ b) (hl : cs.length = n * sz) (hm : n ≤ maxLen) : Own w B e sz (.slice (some ⟨b, 0, none⟩) n n) n cs :=
  ⟨hl, .inr ⟨b, 0, n, cs.toArray, rfl, hB, h, Nat.le_refl _, hm, by simp [hl], by rw [List.drop_zero, ← hl]; exact List.take_length⟩⟩
theorem Own.ne_block {w : World} {B : Nat} {e e' : TypeId} {sz n k : Nat} {v : Value} {xs : List Value} {c : Array Value} {fr : Nat × Nat} (ho : Own w B e sz v n xs) (h : w.heap[k]? = some (.cells c e' fr)) (hne : e' ≠ e) : some k ≠ v.ownBlock := by
  intro e1
  rcases ho.2 with ⟨rfl, _⟩ | ⟨g, o, cap, cur, rfl, _, hg2, _⟩
  · simp [Value.ownBlock] at e1
  · simp [Value.ownBlock] at e1
    subst e1
    rw [h] at hg2
    injection hg2 with hg2
    injection hg2 with _ h2 _
    exact hne h2
theorem grown_block {w w' : World} {k : Nat} {row : Option Nat} {o : Obj} (hg : w.grownBy w' row) (h : w.heap[k]? = some o) (hne : some k ≠ row) : w'.heap[k]? = some o :=
  (hg.block k (Array.getElem?_eq_some_iff.1 h).1 hne).trans h
theorem block_cell {w : World} {k : Nat} {c : Array Value} {T : TypeId} {fr : Nat × Nat} (h : w.heap[k]? = some (.cells c T fr)) (i : Nat) : w.cell? ⟨k, i, none⟩ = c[i]? := by
  simp [World.cell?, h]
theorem block_free {w : World} {k : Nat} {c : Array Value} {T : TypeId} (h : w.heap[k]? = some (.cells c T (0, 0))) (i : Nat) : w.frozen? ⟨k, i, none⟩ = false := by
  simp [World.frozen?, h]
theorem setCell_block {w : World} {k : Nat} {c : Array Value} {T : TypeId} {fr : Nat × Nat} (h : w.heap[k]? = some (.cells c T fr)) (i : Nat) (u : Value) : (w.setCell ⟨k, i, none⟩ u).heap[k]? = some (.cells (c.setIfInBounds i u) T fr) := by
  simp [World.setCell, Array.getElem?_modify, h]
end Go.Proofs.YthefofclbepkoaaDoor

/- Contracts: record.Find, record.Get, record.Set. -/
namespace Go.Proofs.YthefofclbepkoaaDoor
open Go Go.RowKit


theorem clone_prps_info : (Tryd.prog.info? 107).map (fun i => (i.zero, i.size, i.bytes)) = some (some (.agg #[.string .empty, .int .i64 0, .int .i64 0, .string .empty]), 4, 48) := by kernel_rfl
set_option maxHeartbeats 2000000 in
theorem clone_prps {w : World} {v : Value} {l : List Prp} (hv : Sl prpL w v l) (hl : l.length ≤ 1048576) : Calls Tryd.prog 95 #[v] w (CloneR prpL 107 l w) := by
  obtain ⟨i0, ei, ez, ez1, ez2⟩ := info_parts clone_prps_info
  obtain ⟨A, c, rfl, _, _⟩ := hv.form
  obtain ⟨xs, hr, hx⟩ := Row.of_sl hv
  have hlen := hr.len
  have h1 := hr.oneCell one_prp
  have q22 : ∀ (w : World) (a : Option Addr) (n c n' c' : Nat), (binOp .eql 54 (.slice a n c) (.slice none n' c')).run Tryd.prog w = .ok (.bool a.isNone) w := fun w a n c n' c' => Lib.run_eql_slice_nil w _ _ a n c n' c' Tryd.underlying54
  cases A with
  | none =>
    have h0 : l = [] := by
      rcases Nat.eq_zero_or_pos l.length with h | h
      · exact List.eq_nil_of_length_eq_zero h
      · obtain ⟨_, _, hA, _⟩ := hx h; cases hA
    subst h0
    clear hv hr hx hlen h1
    go_enter Tryd.func95, Tryd.ntmps95
    go_wp2_with fail
    go_ret
    exact ⟨_, [], rfl, Own.nil _ _ _ _, rfl, Below.refl _ _⟩
  | some a =>
    have hX : Hid (0 < l.length → ∃ b o, (some a : Option Addr) = some ⟨b, o, none⟩ ∧ ∀ j u, xs[j]? = some u → w.cell? ⟨b, o + j, none⟩ = some u) := hx
    have hR := Lib.hid hr
    have hL := Lib.hid hlen
    have h1H := Lib.hid h1
    clear hv hr hx hlen h1
    go_enter Tryd.func95, Tryd.ntmps95
    go_wp2_with (at_builtin; refine wpList_append_q _ rfl (.tmp 5) (.tmp 6) 54 rfl w.heap.size 107 i0 (.agg #[.string .empty, .int .i64 0, .int .i64 0, .string .empty]) 4 48 Tryd.underlying54 ei ez ez1 ez2 rfl (by decide) (.slice (some ⟨w.heap.size, 0, none⟩) 0 0) 0 [] rfl Own.made (some a) l.length c xs rfl hL.out (fun hp => by
        obtain ⟨b, o, hA, hy⟩ := hX.out hp
        exact ⟨_, hA, fun j u hj => by rw [addr_add]; exact cell_below ((Below.refl _ _).alloc (Nat.le_refl _) _) (hy j u hj)⟩) h1H.out (by unfold maxLen; omega) (by omega) (by simp) ?_; intro v7 w7 hown7 hg7 hat7)
    have hb7 : Below w.heap.size w w7 := ((Below.refl _ _).alloc (Nat.le_refl _) _).grown hg7 (by simp) (fun k hk => Nat.le_of_eq (by simpa [Value.ownBlock] using hk))
    simp only [Nat.zero_add, List.nil_append] at hown7
    clear hg7 hat7
    go_ret
    exact ⟨_, xs, rfl, hown7, hR.out, hb7⟩

/-! ### The order of names -/
theorem less_cmp : ∀ (a b : List UInt8), Op.bytesLess a b = decide (Lib.compareBytes a b < 0)
  | [], [] => by simp [Op.bytesLess, Lib.compareBytes]
  | [], _ :: _ => by simp [Op.bytesLess, Lib.compareBytes]
  | _ :: _, [] => by simp [Op.bytesLess, Lib.compareBytes]
  | x :: a, y :: b => by
    rw [Op.bytesLess, Lib.compareBytes, less_cmp a b]
    by_cases h1 : x < y
    · simp [h1]
    · by_cases h2 : y < x
      · have : x ≠ y := fun e => by subst e; exact absurd h2 h1
        simp [h1, h2, this]
      · have e : x = y := by
          apply UInt8.toNat_inj.1
          simp [UInt8.lt_iff_toNat_lt] at h1 h2
          omega
        subst e
        simp [h1]
theorem ltS_cmp (a b : ByteArray) : ltS a b = decide (cmpS a b < 0) := by
  unfold ltS cmpS
  rw [less_cmp, ByteArray.toList_eq, ByteArray.toList_eq]
theorem prpC_mono (nm : ByteArray) : ∀ a b, prpLt a b = true → 0 ≤ prpC nm a → 0 ≤ prpC nm b := by
  intro a b h h1
  unfold prpLt at h
  rw [ltS_cmp] at h
  unfold prpC at h1 ⊢
  simp at h
  by_cases hb : cmpS b.name nm < 0
  · have := cmpS_trans h hb; omega
  · omega
theorem rec_ok {r : List Prp} (h : recE r = 0) : r.length ≤ 8 ∧ (∀ p ∈ r, prpE p = 0) ∧ chain prpLt r = true := by
  unfold recE at h
  by_cases h1 : 8 < r.length
  · rw [if_pos h1] at h; omega
  rw [if_neg h1] at h
  by_cases h2 : firstE prpE r = 0
  · rw [if_pos h2] at h
    cases hc : chain (fun a b : Prp => ltS a.name b.name) r with
    | true =>
      refine ⟨by omega, fun p hp => ?_, hc⟩
      have key : ∀ l : List Prp, firstE prpE l = 0 → ∀ p ∈ l, prpE p = 0 := by
        intro l
        induction l with
        | nil => intro _ p hp; simp at hp
        | cons a l ih =>
          intro h p hp
          rw [firstE] at h
          split at h
          · rename_i h0
            rcases List.mem_cons.1 hp with rfl | hp
            · exact h0
            · exact ih h p hp
          · rename_i h0; exact absurd h h0
      exact key r h2 p hp
    | false => rw [hc] at h; simp at h
  · rw [if_neg h2] at h; exact absurd h h2
/-! ### record.Get -/
theorem res3 {w w1 : World} {T : TypeId} {c0 c1 c2 : Value} (a b c : Value) (hB : Below w.heap.size w w1) (h : w1.heap[w.heap.size]? = some (.cells #[c0, c1, c2] T (0, 0))) :
    Below w.heap.size w (((w1.setCell ⟨w.heap.size, 0, none⟩ a).setCell ⟨w.heap.size, 1, none⟩ b).setCell ⟨w.heap.size, 2, none⟩ c) ∧
    (((w1.setCell ⟨w.heap.size, 0, none⟩ a).setCell ⟨w.heap.size, 1, none⟩ b).setCell ⟨w.heap.size, 2, none⟩ c).cell? ⟨w.heap.size, 0, none⟩ = some a ∧
    (((w1.setCell ⟨w.heap.size, 0, none⟩ a).setCell ⟨w.heap.size, 1, none⟩ b).setCell ⟨w.heap.size, 2, none⟩ c).cell? ⟨w.heap.size, 1, none⟩ = some b ∧
    (((w1.setCell ⟨w.heap.size, 0, none⟩ a).setCell ⟨w.heap.size, 1, none⟩ b).setCell ⟨w.heap.size, 2, none⟩ c).cell? ⟨w.heap.size, 2, none⟩ = some c := by
  have h3 := setCell_block (setCell_block (setCell_block h 0 a) 1 b) 2 c
  exact ⟨((hB.setCell (p := ⟨_, 0, none⟩) (Nat.le_refl _) _).setCell (p := ⟨_, 1, none⟩) (Nat.le_refl _) _).setCell (p := ⟨_, 2, none⟩) (Nat.le_refl _) _, block_cell h3 0, block_cell h3 1, block_cell h3 2⟩
def getE (r : List Prp) (nm : ByteArray) : Int := if recE r = 0 then (if rhas r nm then 0 else 5) else recE r
def noVal : Val := ⟨0, 0, .empty⟩
def getV (r : List Prp) (nm : ByteArray) : Val := if getE r nm = 0 then (match r[rpos r nm]? with | some p => p.v | none => noVal) else noVal
theorem rhas_some {r : List Prp} {nm : ByteArray} (h : rhas r nm = true) : ∃ p, r[rpos r nm]? = some p := by
  unfold rhas eqAt at h
  cases hd : r[rpos r nm]? with
  | none => rw [hd] at h; simp at h
  | some d => exact ⟨d, rfl⟩
end Go.Proofs.YthefofclbepkoaaDoor

/- Contract: record.Set. -/
namespace Go.Proofs.YthefofclbepkoaaDoor
open Go Go.RowKit

theorem flat_set4 (p : Prp) : ∀ (r : List Prp) (i : Nat), i < r.length → ((((r.flatMap Prp.enc).set (i * 4) (.string p.name)).set (i * 4 + 1) (.int .i64 p.v.ty)).set (i * 4 + 2) (.int .i64 p.v.n)).set (i * 4 + 3) (.string p.v.s) = (r.set i p).flatMap Prp.enc
  | [], i, h => by simp at h
  | a :: r, 0, _ => by simp [Prp.enc]
  | a :: r, i + 1, h => by
    have ih := flat_set4 p r i (by simpa using h)
    have e : (i + 1) * 4 = i * 4 + 4 := by omega
    rw [List.set_cons_succ, List.flatMap_cons, List.flatMap_cons, ← ih, e]
    rfl
def setE (r : List Prp) (p : Prp) : Int := if recE r = 0 then (if prpE p = 0 then (if rhas r p.name then 0 else if 8 ≤ r.length then 4 else 0) else prpE p) else recE r
def putP (r : List Prp) (p : Prp) : List Prp := if rhas r p.name then r.set (rpos r p.name) p else r.take (rpos r p.name) ++ p :: r.drop (rpos r p.name)
def setR (r : List Prp) (p : Prp) : List Prp := if setE r p = 0 then putP r p else []
/-- A record and an error. -/
def RetR (l : List Prp) (err : Int) (w : World) (e : Ending) (w' : World) : Prop := ∃ v, e = .returned (.tuple #[v, errV err]) ∧ Sl prpL w' v l ∧ Below w.heap.size w w'
/-- A record that is the call's own. -/
def OwnP (w : World) (B : Nat) (v : Value) (l : List Prp) : Prop := Own w B 107 4 v l.length (l.flatMap Prp.enc) ∧ ∀ x ∈ l, x.ok
theorem OwnP.nil {w : World} {B : Nat} : OwnP w B (.slice none 0 0) [] := ⟨Own.nil _ _ _ _, fun x hx => by cases hx⟩
/-- The same, the record the call's own. -/
def RetO (l : List Prp) (err : Int) (w : World) (e : Ending) (w' : World) : Prop := ∃ v, e = .returned (.tuple #[v, errV err]) ∧ OwnP w' w.heap.size v l ∧ Below w.heap.size w w'
theorem RetO.r {l : List Prp} {err : Int} {w w' : World} {e : Ending} (h : RetO l err w e w') : RetR l err w e w' := by
  obtain ⟨v, h1, h2, h3⟩ := h
  exact ⟨v, h1, h2.1.prps h2.2, h3⟩
theorem cell_box4' (w : World) (a b c d : Value) (t : TypeId) : (w.alloc (.cells #[a, b, c, d] t)).cell? ⟨w.heap.size, 0, none⟩ = some a ∧ (w.alloc (.cells #[a, b, c, d] t)).cell? ⟨w.heap.size, 1, none⟩ = some b ∧
    (w.alloc (.cells #[a, b, c, d] t)).cell? ⟨w.heap.size, 2, none⟩ = some c ∧ (w.alloc (.cells #[a, b, c, d] t)).cell? ⟨w.heap.size, 3, none⟩ = some d :=
  ⟨by rw [World.cell?_alloc_at _ _ _ _ rfl]; rfl, by rw [World.cell?_alloc_at _ _ _ _ rfl]; rfl, by rw [World.cell?_alloc_at _ _ _ _ rfl]; rfl, by rw [World.cell?_alloc_at _ _ _ _ rfl]; rfl⟩
end Go.Proofs.YthefofclbepkoaaDoor
