/- Parts: CloA, Same, ValB, RecA, RecB, GrA. -/
import Derived.Test.YtkaolglpmajeaaaGreatMg03
import Derived.Test.YtkaolglpmajeaaaGreatMg02
import Derived.WalkSpells
import Derived.Test.YtkaolglpmajeaaaGreatRows
import Derived.Lib.SliceRun
import Derived.Lib.Bytealg
import Derived.StillTailTactics
import Derived.Sort.Walk0
/- Plain: rows of structs, cell by cell: a list's cells, one behind the other; slices.Clone. No condition. -/
namespace Go.Proofs.YtkaolglpmajeaaaGreat
open Go Go.RowKit

section
variable {D : Type} {L : Lay D}
/-- The cells xs are the list's, one behind the other. -/
def Row (L : Lay D) (w : World) : List D → List Value → Prop
  | [], xs => xs = []
  | d :: l, xs => ∃ cs ys, xs = cs ++ ys ∧ L.cells w d cs ∧ Row L w l ys
theorem Row.nil (w : World) : Row L w [] [] := rfl
theorem Row.len {w : World} : ∀ {l : List D} {xs : List Value}, Row L w l xs → xs.length = l.length * L.sz
  | [], xs, h => by rw [show xs = [] from h]; simp
  | d :: l, xs, h => by
    obtain ⟨cs, ys, rfl, hc, hr⟩ := h
    rw [List.length_append, L.len hc, hr.len, List.length_cons, Nat.add_mul]; omega
theorem Row.one {w : World} {d : D} {cs : List Value} (h : L.cells w d cs) : Row L w [d] cs := ⟨cs, [], by simp, h, rfl⟩
theorem Row.append {w : World} : ∀ {l m : List D} {xs ys : List Value}, Row L w l xs → Row L w m ys → Row L w (l ++ m) (xs ++ ys)
  | [], m, xs, ys, h, k => by rw [show xs = [] from h]; simpa using k
  | d :: l, m, xs, ys, h, k => by
    obtain ⟨cs, zs, rfl, hc, hr⟩ := h
    exact ⟨cs, zs ++ ys, by simp, hc, hr.append k⟩
theorem Row.below {w w' : World} (hb : Below w.heap.size w w') : ∀ {l : List D} {xs : List Value}, Row L w l xs → Row L w' l xs
  | [], _, h => h
  | _ :: _, _, h => by
    obtain ⟨cs, zs, rfl, hc, hr⟩ := h
    exact ⟨cs, zs, rfl, L.below hb hc, hr.below hb⟩
theorem Row.split {w : World} : ∀ {l : List D} {xs : List Value} (i : Nat), i ≤ l.length → Row L w l xs → Row L w (l.take i) (xs.take (i * L.sz)) ∧ Row L w (l.drop i) (xs.drop (i * L.sz))
  | l, xs, 0, _, h => by simpa using ⟨Row.nil w, h⟩
  | [], xs, i + 1, hi, h => by simp at hi
  | d :: l, xs, i + 1, hi, h => by
    obtain ⟨cs, ys, rfl, hc, hr⟩ := h
    have hl := L.len hc
    obtain ⟨h1, h2⟩ := hr.split i (by simpa using hi)
    have e : (i + 1) * L.sz = cs.length + i * L.sz := by rw [hl, Nat.add_mul]; omega
    rw [e, List.take_length_add_append, List.drop_length_add_append]
    exact ⟨⟨cs, _, rfl, hc, h1⟩, h2⟩
theorem Row.take {w : World} {l : List D} {xs : List Value} (h : Row L w l xs) (i : Nat) (hi : i ≤ l.length) : Row L w (l.take i) (xs.take (i * L.sz)) := (h.split i hi).1
theorem Row.drop {w : World} {l : List D} {xs : List Value} (h : Row L w l xs) (i : Nat) (hi : i ≤ l.length) : Row L w (l.drop i) (xs.drop (i * L.sz)) := (h.split i hi).2
theorem Row.get {w : World} : ∀ {l : List D} {xs : List Value} {i : Nat} {d : D}, Row L w l xs → l[i]? = some d → ∃ cs, L.cells w d cs ∧ ∀ j u, cs[j]? = some u → xs[i * L.sz + j]? = some u
  | [], _, i, d, _, h => by simp at h
  | e :: l, xs, 0, d, h, hd => by
    obtain ⟨cs, ys, rfl, hc, hr⟩ := h
    simp at hd; subst hd
    exact ⟨cs, hc, fun j u hj => by rw [Nat.zero_mul, Nat.zero_add, List.getElem?_append_left (List.getElem?_eq_some_iff.1 hj).1]; exact hj⟩
  | e :: l, xs, i + 1, d, h, hd => by
    obtain ⟨cs, ys, rfl, hc, hr⟩ := h
    obtain ⟨cs', hc', hx⟩ := hr.get (i := i) (by simpa using hd)
    refine ⟨cs', hc', fun j u hj => ?_⟩
    have hl := L.len hc
    rw [List.getElem?_append_right (by rw [hl, Nat.add_mul]; omega)]
    have : (i + 1) * L.sz + j - cs.length = i * L.sz + j := by rw [hl, Nat.add_mul]; omega
    rw [this]
    exact hx j u hj
theorem Row.insert {w : World} {l : List D} {xs cs : List Value} {d : D} (h : Row L w l xs) (i : Nat) (hi : i ≤ l.length) (hc : L.cells w d cs) : Row L w (l.take i ++ d :: l.drop i) (xs.take (i * L.sz) ++ cs ++ xs.drop (i * L.sz)) := by
  rw [List.append_assoc]
  exact (h.take i hi).append ((Row.one hc).append (h.drop i hi))
theorem Row.snoc {w : World} {l : List D} {xs cs : List Value} {d : D} (h : Row L w l xs) (hc : L.cells w d cs) : Row L w (l ++ [d]) (xs ++ cs) := h.append (Row.one hc)
/-- What an element's cells may be. -/
def OneL (L : Lay D) : Prop := ∀ w d cs, L.cells w d cs → ∀ u ∈ cs, u.oneCell' = true
theorem Row.oneCell (h1 : OneL L) {w : World} : ∀ {l : List D} {xs : List Value}, Row L w l xs → ∀ u ∈ xs, u.oneCell' = true
  | [], xs, h, u, hu => by rw [show xs = [] from h] at hu; simp at hu
  | d :: l, xs, h, u, hu => by
    obtain ⟨cs, ys, rfl, hc, hr⟩ := h
    rcases List.mem_append.1 hu with hu | hu
    · exact h1 _ _ _ hc u hu
    · exact hr.oneCell h1 u hu
theorem row_of_all {w : World} {b : Nat} : ∀ {l : List D} {o : Nat}, (∀ k d, l[k]? = some d → ∃ cs, L.cells w d cs ∧ ∀ j u, cs[j]? = some u → w.cell? ⟨b, o + (k * L.sz + j), none⟩ = some u) →
    ∃ xs, Row L w l xs ∧ ∀ j u, xs[j]? = some u → w.cell? ⟨b, o + j, none⟩ = some u
  | [], o, _ => ⟨[], rfl, fun j u h => by simp at h⟩
  | d :: l, o, h => by
    obtain ⟨cs, hc, hx⟩ := h 0 d rfl
    obtain ⟨xs, hr, hy⟩ := row_of_all (b := b) (l := l) (o := o + L.sz) (fun k d hk => by
      obtain ⟨cs', hc', hx'⟩ := h (k + 1) d (by simpa using hk)
      refine ⟨cs', hc', fun j u hj => ?_⟩
      rw [← hx' j u hj]
      have : o + L.sz + (k * L.sz + j) = o + ((k + 1) * L.sz + j) := by rw [Nat.add_mul]; omega
      rw [this])
    refine ⟨cs ++ xs, ⟨cs, xs, rfl, hc, hr⟩, fun j u hj => ?_⟩
    have hl := L.len hc
    by_cases hjl : j < cs.length
    · rw [List.getElem?_append_left hjl] at hj
      have := hx j u hj
      rwa [Nat.zero_mul, Nat.zero_add] at this
    · rw [List.getElem?_append_right (by omega)] at hj
      rw [← hy _ u hj]
      have : o + L.sz + (j - cs.length) = o + j := by omega
      rw [this]
theorem Row.of_sl {w : World} {A : Option Addr} {n c : Nat} {l : List D} (h : Sl L w (.slice A n c) l) : ∃ xs, Row L w l xs ∧ (0 < l.length → ∃ b o, A = some ⟨b, o, none⟩ ∧ ∀ j u, xs[j]? = some u → w.cell? ⟨b, o + j, none⟩ = some u) := by
  by_cases hn : 0 < l.length
  · obtain ⟨b, o, hA, hall⟩ := h.all hn
    obtain ⟨xs, hr, hx⟩ := row_of_all hall
    exact ⟨xs, hr, fun _ => ⟨b, o, hA, hx⟩⟩
  · have : l = [] := List.eq_nil_of_length_eq_zero (by omega)
    subst this
    exact ⟨[], rfl, fun h => absurd h hn⟩
theorem Own.row {w : World} {B : Nat} {e : TypeId} {v : Value} {l : List D} {xs : List Value} (h : Own w B e L.sz v l.length xs) (hr : Row L w l xs) : Sl L w v l := by
  obtain ⟨A, c, rfl, h1, h2⟩ := h.form
  refine ⟨A, c, rfl, h1, h2, fun i d hi => ?_⟩
  obtain ⟨g, o, c', hv, _, _⟩ := h.addr (len_pos hi)
  injection hv with hA _ hc
  subst hA; subst hc
  obtain ⟨cs, hc, hx⟩ := hr.get hi
  exact ⟨g, o, cs, rfl, hc, fun j u hj => h.cell rfl (hx j u hj)⟩
end
theorem Row.flat {D : Type} {n : Nat} {ok : D → Prop} {enc : D → List Value} {hn : ∀ d, (enc d).length = n} {w : World} : ∀ {l : List D} {xs : List Value}, Row (flatL n ok enc hn) w l xs → xs = l.flatMap enc ∧ ∀ x ∈ l, ok x
  | [], xs, h => ⟨h, fun x hx => by simp at hx⟩
  | d :: l, xs, h => by
    obtain ⟨cs, ys, rfl, ⟨rfl, ho⟩, hr⟩ := h
    obtain ⟨rfl, hk⟩ := Row.flat hr
    refine ⟨by simp, fun x hx => ?_⟩
    rcases List.mem_cons.1 hx with rfl | hx
    · exact ho
    · exact hk x hx
theorem one_knd : OneL kndL := by
  rintro w d cs ⟨v, u, rfl, _, h2, h3⟩ x hx
  obtain ⟨_, _, rfl, _⟩ := h2
  obtain ⟨_, _, rfl, _⟩ := h3
  simp at hx
  rcases hx with rfl | rfl | rfl <;> rfl
theorem one_nod : OneL nodL := by
  rintro w d cs ⟨v, rfl, _, _, h3⟩ x hx
  obtain ⟨_, _, rfl, _⟩ := h3
  simp at hx
  rcases hx with rfl | rfl | rfl <;> rfl
theorem one_flat {D : Type} {n : Nat} {ok : D → Prop} {enc : D → List Value} {hn : ∀ d, (enc d).length = n} (h1 : ∀ d, ∀ u ∈ enc d, u.oneCell' = true) : OneL (flatL n ok enc hn) := by
  rintro w d cs ⟨rfl, _⟩ x hx
  exact h1 d x hx
theorem one_str : OneL strL := one_flat fun d u hu => by simp at hu; subst hu; rfl
theorem one_int : OneL intL := one_flat fun d u hu => by simp at hu; subst hu; rfl
theorem one_prp : OneL prpL := one_flat Prp.enc_one
theorem one_fld : OneL fldL := one_flat Fld.enc_one
theorem one_tie : OneL tieL := one_flat Tie.enc_one
theorem one_bnd : OneL bndL := one_flat Bnd.enc_one
theorem one_sl {D : Type} (L : Lay D) : OneL (slL L) := by
  rintro w d cs ⟨v, rfl, h⟩ x hx
  obtain ⟨_, _, rfl, _⟩ := h
  simp at hx; subst hx; rfl

/-- A copy of the call's own. -/
def CloneR {D : Type} (L : Lay D) (e : TypeId) (l : List D) (w : World) (ed : Ending) (w' : World) : Prop :=
  ∃ v xs, ed = .returned v ∧ Own w' w.heap.size e L.sz v l.length xs ∧ Row L w l xs ∧ Below w.heap.size w w'
theorem Own.made {w : World} {e : TypeId} {sz : Nat} : Own (w.alloc (.cells #[] e)) w.heap.size e sz (.slice (some ⟨w.heap.size, 0, none⟩) 0 0) 0 [] :=
  ⟨by simp, .inr ⟨_, 0, 0, #[], rfl, Nat.le_refl _, heap_alloc_new _ _, Nat.le_refl _, Nat.zero_le _, by simp, by simp⟩⟩

theorem clone_knds_info : (Tryz.prog.info? 61).map (fun i => (i.zero, i.size, i.bytes)) = some (some (.agg #[.string .empty, .slice none 0 0, .slice none 0 0]), 3, 64) := by kernel_rfl
set_option maxHeartbeats 2000000 in
theorem clone_knds {w : World} {v : Value} {l : List Knd} (hv : Sl kndL w v l) (hl : l.length ≤ 1048576) : Calls Tryz.prog 106 #[v] w (CloneR kndL 61 l w) := by
  obtain ⟨i0, ei, ez, ez1, ez2⟩ := info_parts clone_knds_info
  obtain ⟨A, c, rfl, _, _⟩ := hv.form
  obtain ⟨xs, hr, hx⟩ := Row.of_sl hv
  have hlen := hr.len
  have h1 := hr.oneCell one_knd
  have q22 : ∀ (w : World) (a : Option Addr) (n c n' c' : Nat), (binOp .eql 22 (.slice a n c) (.slice none n' c')).run Tryz.prog w = .ok (.bool a.isNone) w := fun w a n c n' c' => Lib.run_eql_slice_nil w _ _ a n c n' c' Tryz.underlying22
  cases A with
  | none =>
    have h0 : l = [] := by
      rcases Nat.eq_zero_or_pos l.length with h | h
      · exact List.eq_nil_of_length_eq_zero h
      · obtain ⟨_, _, hA, _⟩ := hx h; cases hA
    subst h0
    clear hv hr hx hlen h1
    go_enter Tryz.func106, Tryz.ntmps106
    go_wp2_with fail
    go_ret
    exact ⟨_, [], rfl, Own.nil _ _ _ _, rfl, Below.refl _ _⟩
  | some a =>
    have hX : Hid (0 < l.length → ∃ b o, (some a : Option Addr) = some ⟨b, o, none⟩ ∧ ∀ j u, xs[j]? = some u → w.cell? ⟨b, o + j, none⟩ = some u) := hx
    have hR := Lib.hid hr
    have hL := Lib.hid hlen
    have h1H := Lib.hid h1
    clear hv hr hx hlen h1
    go_enter Tryz.func106, Tryz.ntmps106
    go_wp2_with (at_builtin; refine wpList_append_q _ rfl (.tmp 5) (.tmp 6) 22 rfl w.heap.size 61 i0 (.agg #[.string .empty, .slice none 0 0, .slice none 0 0]) 3 64 Tryz.underlying22 ei ez ez1 ez2 rfl (by decide) (.slice (some ⟨w.heap.size, 0, none⟩) 0 0) 0 [] rfl Own.made (some a) l.length c xs rfl hL.out (fun hp => by
        obtain ⟨b, o, hA, hy⟩ := hX.out hp
        exact ⟨_, hA, fun j u hj => by rw [addr_add]; exact cell_below ((Below.refl _ _).alloc (Nat.le_refl _) _) (hy j u hj)⟩) h1H.out (by unfold maxLen; omega) (by omega) (by simp) ?_; intro v7 w7 hown7 hg7 hat7)
    have hb7 : Below w.heap.size w w7 := ((Below.refl _ _).alloc (Nat.le_refl _) _).grown hg7 (by simp) (fun k hk => Nat.le_of_eq (by simpa [Value.ownBlock] using hk))
    simp only [Nat.zero_add, List.nil_append] at hown7
    clear hg7 hat7
    go_ret
    exact ⟨_, xs, rfl, hown7, hR.out, hb7⟩
end Go.Proofs.YtkaolglpmajeaaaGreat

/- Plain: blocks of one element type stay as they are where only blocks of other types are written. No condition. -/
namespace Go.Proofs.YtkaolglpmajeaaaGreat
open Go Go.RowKit

/-- All blocks of cells of type T are as they were. -/
def Same (T : TypeId) (w w' : World) : Prop := ∀ (k : Nat) c fr, w.heap[k]? = some (.cells c T fr) → w'.heap[k]? = some (.cells c T fr)
theorem Same.refl (T : TypeId) (w : World) : Same T w w := fun _ _ _ h => h
theorem Same.trans {T : TypeId} {a b c : World} (h : Same T a b) (k : Same T b c) : Same T a c := fun i x fr hx => k i x fr (h i x fr hx)
theorem Same.below {T : TypeId} {w w' : World} (hb : Below w.heap.size w w') : Same T w w' := fun k _ _ h => (hb.block k (Array.getElem?_eq_some_iff.1 h).1).trans h
theorem Same.alloc {T : TypeId} (w : World) (o : Obj) : Same T w (w.alloc o) := .below ((Below.refl _ _).alloc (Nat.le_refl _) _)
theorem Same.drewN {T : TypeId} (w : World) (n : Nat) : Same T w (w.drewN n) := fun _ _ _ h => h
theorem Same.drew {T : TypeId} (w : World) : Same T w w.drew := fun _ _ _ h => h
theorem Same.grown {T e : TypeId} {w w' : World} {B sz n : Nat} {v : Value} {xs : List Value} (ho : Own w B e sz v n xs) (hne : e ≠ T) (hg : w.grownBy w' v.ownBlock) : Same T w w' := fun k c fr h => by
  have hlt := (Array.getElem?_eq_some_iff.1 h).1
  refine (hg.block k hlt fun e' => ?_).trans h
  rcases ho.2 with ⟨rfl, _⟩ | ⟨g, o, cap, cur, rfl, _, hg2, _⟩
  · simp [Value.ownBlock] at e'
  · simp [Value.ownBlock] at e'
    subst e'
    rw [h] at hg2
    injection hg2 with hg2
    injection hg2 with _ h2 _
    exact hne h2.symm
theorem Same.setCell {T e : TypeId} {w : World} {p : Addr} {c : Array Value} {fr : Nat × Nat} (hp : w.heap[p.block]? = some (.cells c e fr)) (hne : e ≠ T) (u : Value) : Same T w (w.setCell p u) := fun k c' fr' h => by
  refine (Below.heap_setCell w p u k (fun e' => ?_)).trans h
  subst e'
  rw [h] at hp
  injection hp with hp
  injection hp with _ h2 _
  exact hne h2.symm
theorem Own.same {w w' : World} {B : Nat} {e : TypeId} {sz : Nat} {v : Value} {n : Nat} {xs : List Value} (h : Own w B e sz v n xs) (hs : Same e w w') : Own w' B e sz v n xs := by
  refine ⟨h.1, ?_⟩
  rcases h.2 with hn | ⟨g, o, cap, cur, rfl, hb, hg, rest⟩
  · exact .inl hn
  · exact .inr ⟨g, o, cap, cur, rfl, hb, hs g cur _ hg, rest⟩

/-- Nodes of which each one's record is the call's own. -/
def OwnNods (w : World) (B : Nat) : List Nod → List Value → Prop
  | [], xs => xs = []
  | d :: l, xs => ∃ u ys, xs = [.int .i64 d.id, .string d.kind, u] ++ ys ∧ I64 d.id ∧ Sm d.kind ∧ (∀ p ∈ d.props, p.ok) ∧ Own w B 44 4 u d.props.length (d.props.flatMap Prp.enc) ∧ OwnNods w B l ys
theorem OwnNods.same {w w' : World} {B : Nat} (hs : Same 44 w w') : ∀ {l : List Nod} {xs : List Value}, OwnNods w B l xs → OwnNods w' B l xs
  | [], _, h => h
  | _ :: _, _, h => by
    obtain ⟨u, ys, rfl, h1, h2, h3, h4, h5⟩ := h
    exact ⟨u, ys, rfl, h1, h2, h3, h4.same hs, h5.same hs⟩
theorem OwnNods.snoc {w : World} {B : Nat} {d : Nod} {u : Value} (h1 : I64 d.id) (h2 : Sm d.kind) (h3 : ∀ p ∈ d.props, p.ok) (h4 : Own w B 44 4 u d.props.length (d.props.flatMap Prp.enc)) :
    ∀ {l : List Nod} {xs : List Value}, OwnNods w B l xs → OwnNods w B (l ++ [d]) (xs ++ [.int .i64 d.id, .string d.kind, u])
  | [], xs, h => by rw [show xs = [] from h]; exact ⟨u, [], by simp, h1, h2, h3, h4, rfl⟩
  | e :: l, xs, h => by
    obtain ⟨v, ys, rfl, k1, k2, k3, k4, k5⟩ := h
    exact ⟨v, ys ++ [.int .i64 d.id, .string d.kind, u], by simp, k1, k2, k3, k4, k5.snoc h1 h2 h3 h4⟩
theorem OwnNods.row {w : World} {B : Nat} : ∀ {l : List Nod} {xs : List Value}, OwnNods w B l xs → Row nodL w l xs
  | [], _, h => h
  | _ :: _, _, h => by
    obtain ⟨u, ys, rfl, h1, h2, h3, h4, h5⟩ := h
    exact ⟨_, ys, rfl, ⟨u, rfl, h1, h2, h4.prps h3⟩, h5.row⟩
theorem Own.nods {w : World} {B B' : Nat} {e : TypeId} {v : Value} {l : List Nod} {xs : List Value} (h : Own w B e 3 v l.length xs) (hn : OwnNods w B' l xs) : Sl nodL w v l := Own.row (L := nodL) h hn.row
theorem own_of_block {w : World} {b B : Nat} {e : TypeId} {sz n : Nat} {cs : List Value} (h : w.heap[b]? = some (.cells cs.toArray e (0, 0))) (hB : B ≤ b) (hl : cs.length = n * sz) (hm : n ≤ maxLen) : Own w B e sz (.slice (some ⟨b, 0, none⟩) n n) n cs :=
  ⟨hl, .inr ⟨b, 0, n, cs.toArray, rfl, hB, h, Nat.le_refl _, hm, by simp [hl], by rw [List.drop_zero, ← hl]; exact List.take_length⟩⟩
theorem Own.ne_block {w : World} {B : Nat} {e e' : TypeId} {sz n k : Nat} {v : Value} {xs : List Value} {c : Array Value} {fr : Nat × Nat} (ho : Own w B e sz v n xs) (h : w.heap[k]? = some (.cells c e' fr)) (hne : e' ≠ e) : some k ≠ v.ownBlock := by
  intro e1
  rcases ho.2 with ⟨rfl, _⟩ | ⟨g, o, cap, cur, rfl, _, hg2, _⟩
  · simp [Value.ownBlock] at e1
  · simp [Value.ownBlock] at e1
    subst e1
    rw [h] at hg2
    injection hg2 with hg2
    injection hg2 with _ h2 _
    exact hne h2
theorem grown_block {w w' : World} {k : Nat} {row : Option Nat} {o : Obj} (hg : w.grownBy w' row) (h : w.heap[k]? = some o) (hne : some k ≠ row) : w'.heap[k]? = some o :=
  (hg.block k (Array.getElem?_eq_some_iff.1 h).1 hne).trans h
theorem block_cell {w : World} {k : Nat} {c : Array Value} {T : TypeId} {fr : Nat × Nat} (h : w.heap[k]? = some (.cells c T fr)) (i : Nat) : w.cell? ⟨k, i, none⟩ = c[i]? := by
  simp [World.cell?, h]
theorem block_free {w : World} {k : Nat} {c : Array Value} {T : TypeId} (h : w.heap[k]? = some (.cells c T (0, 0))) (i : Nat) : w.frozen? ⟨k, i, none⟩ = false := by
  simp [World.frozen?, h]
theorem setCell_block {w : World} {k : Nat} {c : Array Value} {T : TypeId} {fr : Nat × Nat} (h : w.heap[k]? = some (.cells c T fr)) (i : Nat) (u : Value) : (w.setCell ⟨k, i, none⟩ u).heap[k]? = some (.cells (c.setIfInBounds i u) T fr) := by
  simp [World.setCell, Array.getElem?_modify, h]
end Go.Proofs.YtkaolglpmajeaaaGreat

/- Contracts: what value.Check, record.prop and record.Check of the program answer, for every input that is not too long. -/
namespace Go.Proofs.YtkaolglpmajeaaaGreat
open Go.RowKit

def strC (c : UInt8) : Bool := decide ((c.toNat : Int) < 32) || decide (126 < (c.toNat : Int))
theorem check1 (c : UInt8) (w : World) :
    Calls Tryz.prog 91 #[.int .u8 c.toNat] w fun e w' => e = .returned (.bool (strC c)) ∧ w = w' := by
  unfold strC
  go_enter Tryz.func91, Tryz.ntmps91
  go_wp2
  all_goals go_ret
  all_goals exact ⟨rfl, rfl⟩

/-- The least and the greatest number of a type. -/
def valLo (ty : Int) : Int := if ty = 1 then -1000000 else 0
def valHi (ty : Int) : Int := if ty = 1 then 1000000 else if ty = 2 then 1 else 0
/-- The fault of a value. -/
def valE (v : Val) : Int :=
  if v.ty = 1 ∨ v.ty = 2 ∨ v.ty = 3 then
    if v.n < valLo v.ty ∨ valHi v.ty < v.n then 1
    else if v.ty = 3 ∧ 20 < v.s.size then 4
    else if v.s.data.toList.any strC = true ∨ (v.ty ≠ 3 ∧ v.s.toList.isEmpty = false) then 2
    else 0
  else 8

/-- The call inside Check: strange bytes. -/
theorem strange_any (ty n : Int) (s : ByteArray) (w W0 : World) (hW : W0 = w.alloc (.cells #[.int .i64 ty, .int .i64 n, .string s] 42)) (hs : Sm s) :
    Calls Tryz.prog 61 #[.slice (some ⟨w.heap.size + 1, 0, none⟩) s.size (grownCap W0 s.size 0 5), .func (.func 91) #[] #[]] (Lib.bytesWorld W0 5 s)
      fun e w' => e = .returned (.bool (s.data.toList.any strC)) ∧ Below w.heap.size w w' ∧ w'.cell? ⟨w.heap.size, 0, none⟩ = some (.int .i64 ty) ∧ w'.cell? ⟨w.heap.size, 1, none⟩ = some (.int .i64 n) ∧
        w'.cell? ⟨w.heap.size, 2, none⟩ = some (.string s) := by
  obtain ⟨hsl, hb⟩ := bytes_sl W0 s hs
  have hsz : W0.heap.size = w.heap.size + 1 := by subst hW; simp
  rw [hsz] at hsl
  refine (has_byte 91 #[] (by intro args w; kernel_rfl) strC s.data.toList _ _ hsl (fun x u wx _ hu => by subst hu; exact (check1 x wx).mono fun e w' ⟨h1, h2⟩ => ⟨h1, h2 ▸ Below.refl _ _⟩)).mono ?_
  rintro e w' ⟨he, hb2⟩
  have hb3 : Below W0.heap.size W0 w' := hb.trans (hb2.mono hb.size)
  refine ⟨he, ?_, cell_below hb3 ?_, cell_below hb3 ?_, cell_below hb3 ?_⟩
  · refine Below.trans (b := W0) (by subst hW; exact (Below.refl _ _).alloc (Nat.le_refl _) _) (hb3.mono (by subst hW; simp))
  all_goals subst hW; rw [World.cell?_alloc_at _ _ _ _ rfl]; rfl

section
variable (ty n : Int) (s : ByteArray) (w : World)
theorem check_bad (h : ¬ (ty = 1 ∨ ty = 2 ∨ ty = 3)) :
    Calls Tryz.prog 70 #[.agg #[.int .i64 ty, .int .i64 n, .string s]] w fun e w' => e = .returned (errV (valE ⟨ty, n, s⟩)) ∧ Below w.heap.size w w' := by
  have HE : Hid (errV (valE ⟨ty, n, s⟩) = .iface 65 (.int .i64 8)) := by unfold valE; rw [if_neg h]; rfl
  have h1 : (ty == 1) = false := by simp; omega
  have h2 : (ty == 2) = false := by simp; omega
  have h3 : (ty == 3) = false := by simp; omega
  clear h
  go_enter Tryz.func70, Tryz.ntmps70
  go_wp2_with fail
  go_ret
  exact ⟨by rw [HE.out]; rfl, (Below.refl _ _).alloc (Nat.le_refl _) _⟩
set_option maxHeartbeats 1000000 in
theorem check_int (hs : Sm s) :
    Calls Tryz.prog 70 #[.agg #[.int .i64 1, .int .i64 n, .string s]] w fun e w' => e = .returned (errV (valE ⟨1, n, s⟩)) ∧ Below w.heap.size w w' := by
  have hcv := fun wx => Lib.run_convert_string_bytes (P := Tryz.prog) wx 9 130 5 s Tryz.underlying9 Tryz.underlying130 Tryz.underlying5
  have hcall := strange_any 1 n s w _ rfl hs
  have hs' : s.size ≤ 1048576 := hs
  clear hs
  have HF : Hid (valE ⟨1, n, s⟩ = if n < -1000000 ∨ 1000000 < n then 1 else if s.data.toList.any strC = true ∨ s.toList.isEmpty = false then 2 else 0) := by
    unfold valE valLo valHi Hid; simp
  generalize s.data.toList.any strC = B at hcall HF
  by_cases h1 : n < -1000000
  · have HE : Hid (errV (valE ⟨1, n, s⟩) = .iface 65 (.int .i64 1)) := by rw [HF.out]; rw [if_pos (Or.inl h1)]; rfl
    clear HF
    go_enter Tryz.func70, Tryz.ntmps70
    go_wp2_with (go_at_call 61; refine hcall.mono ?_; rintro e w' ⟨rfl, hb, c0, c1, c2⟩)
    go_ret
    exact ⟨by rw [HE.out]; rfl, hb⟩
  · by_cases h2 : 1000000 < n
    · have HE : Hid (errV (valE ⟨1, n, s⟩) = .iface 65 (.int .i64 1)) := by rw [HF.out]; rw [if_pos (Or.inr h2)]; rfl
      clear HF
      go_enter Tryz.func70, Tryz.ntmps70
      go_wp2_with (go_at_call 61; refine hcall.mono ?_; rintro e w' ⟨rfl, hb, c0, c1, c2⟩)
      go_ret
      exact ⟨by rw [HE.out]; rfl, hb⟩
    · have h1' : -1000000 ≤ n := by omega
      have h2' : n ≤ 1000000 := by omega
      have h1b : decide (n < -1000000) = false := by simp; omega
      have h2b : decide (1000000 < n) = false := by simp; omega
      cases B with
      | true =>
        have HE : Hid (errV (valE ⟨1, n, s⟩) = .iface 65 (.int .i64 2)) := by rw [HF.out]; rw [if_neg (by omega), if_pos (Or.inl rfl)]; rfl
        clear HF
        go_enter Tryz.func70, Tryz.ntmps70
        go_wp2_with (go_at_call 61; refine hcall.mono ?_; rintro e w' ⟨rfl, hb, c0, c1, c2⟩)
        go_ret
        exact ⟨by rw [HE.out]; rfl, hb⟩
      | false =>
        cases h0 : s.toList.isEmpty with
        | true =>
          have HE : Hid (errV (valE ⟨1, n, s⟩) = .nilIface) := by rw [HF.out]; rw [h0, if_neg (by omega), if_neg (by simp)]; rfl
          clear HF
          go_enter Tryz.func70, Tryz.ntmps70
          go_wp2_with (go_at_call 61; refine hcall.mono ?_; rintro e w' ⟨rfl, hb, c0, c1, c2⟩)
          go_ret
          exact ⟨by rw [HE.out]; rfl, hb⟩
        | false =>
          have HE : Hid (errV (valE ⟨1, n, s⟩) = .iface 65 (.int .i64 2)) := by rw [HF.out]; rw [h0, if_neg (by omega), if_pos (by simp)]; rfl
          clear HF
          go_enter Tryz.func70, Tryz.ntmps70
          go_wp2_with (go_at_call 61; refine hcall.mono ?_; rintro e w' ⟨rfl, hb, c0, c1, c2⟩)
          go_ret
          exact ⟨by rw [HE.out]; rfl, hb⟩
set_option maxHeartbeats 1000000 in
theorem check_bool (hs : Sm s) :
    Calls Tryz.prog 70 #[.agg #[.int .i64 2, .int .i64 n, .string s]] w fun e w' => e = .returned (errV (valE ⟨2, n, s⟩)) ∧ Below w.heap.size w w' := by
  have hcv := fun wx => Lib.run_convert_string_bytes (P := Tryz.prog) wx 9 130 5 s Tryz.underlying9 Tryz.underlying130 Tryz.underlying5
  have hcall := strange_any 2 n s w _ rfl hs
  have hs' : s.size ≤ 1048576 := hs
  clear hs
  have HF : Hid (valE ⟨2, n, s⟩ = if n < 0 ∨ 1 < n then 1 else if s.data.toList.any strC = true ∨ s.toList.isEmpty = false then 2 else 0) := by
    unfold valE valLo valHi Hid; simp
  generalize s.data.toList.any strC = B at hcall HF
  by_cases h1 : n < 0
  · have HE : Hid (errV (valE ⟨2, n, s⟩) = .iface 65 (.int .i64 1)) := by rw [HF.out]; rw [if_pos (Or.inl h1)]; rfl
    clear HF
    go_enter Tryz.func70, Tryz.ntmps70
    go_wp2_with (go_at_call 61; refine hcall.mono ?_; rintro e w' ⟨rfl, hb, c0, c1, c2⟩)
    go_ret
    exact ⟨by rw [HE.out]; rfl, hb⟩
  · by_cases h2 : 1 < n
    · have HE : Hid (errV (valE ⟨2, n, s⟩) = .iface 65 (.int .i64 1)) := by rw [HF.out]; rw [if_pos (Or.inr h2)]; rfl
      clear HF
      go_enter Tryz.func70, Tryz.ntmps70
      go_wp2_with (go_at_call 61; refine hcall.mono ?_; rintro e w' ⟨rfl, hb, c0, c1, c2⟩)
      go_ret
      exact ⟨by rw [HE.out]; rfl, hb⟩
    · have h1' : 0 ≤ n := by omega
      have h2' : n ≤ 1 := by omega
      have h1b : decide (n < 0) = false := by simp; omega
      have h2b : decide (1 < n) = false := by simp; omega
      cases B with
      | true =>
        have HE : Hid (errV (valE ⟨2, n, s⟩) = .iface 65 (.int .i64 2)) := by rw [HF.out]; rw [if_neg (by omega), if_pos (Or.inl rfl)]; rfl
        clear HF
        go_enter Tryz.func70, Tryz.ntmps70
        go_wp2_with (go_at_call 61; refine hcall.mono ?_; rintro e w' ⟨rfl, hb, c0, c1, c2⟩)
        go_ret
        exact ⟨by rw [HE.out]; rfl, hb⟩
      | false =>
        cases h0 : s.toList.isEmpty with
        | true =>
          have HE : Hid (errV (valE ⟨2, n, s⟩) = .nilIface) := by rw [HF.out]; rw [h0, if_neg (by omega), if_neg (by simp)]; rfl
          clear HF
          go_enter Tryz.func70, Tryz.ntmps70
          go_wp2_with (go_at_call 61; refine hcall.mono ?_; rintro e w' ⟨rfl, hb, c0, c1, c2⟩)
          go_ret
          exact ⟨by rw [HE.out]; rfl, hb⟩
        | false =>
          have HE : Hid (errV (valE ⟨2, n, s⟩) = .iface 65 (.int .i64 2)) := by rw [HF.out]; rw [h0, if_neg (by omega), if_pos (by simp)]; rfl
          clear HF
          go_enter Tryz.func70, Tryz.ntmps70
          go_wp2_with (go_at_call 61; refine hcall.mono ?_; rintro e w' ⟨rfl, hb, c0, c1, c2⟩)
          go_ret
          exact ⟨by rw [HE.out]; rfl, hb⟩
set_option maxHeartbeats 1000000 in
theorem check_text (hs : Sm s) :
    Calls Tryz.prog 70 #[.agg #[.int .i64 3, .int .i64 n, .string s]] w fun e w' => e = .returned (errV (valE ⟨3, n, s⟩)) ∧ Below w.heap.size w w' := by
  have hcv := fun wx => Lib.run_convert_string_bytes (P := Tryz.prog) wx 9 130 5 s Tryz.underlying9 Tryz.underlying130 Tryz.underlying5
  have hcall := strange_any 3 n s w _ rfl hs
  have hs' : s.size ≤ 1048576 := hs
  clear hs
  have HF : Hid (valE ⟨3, n, s⟩ = if n < 0 ∨ 0 < n then 1 else if 20 < s.size then 4 else if s.data.toList.any strC = true then 2 else 0) := by
    unfold valE valLo valHi Hid; simp
  generalize s.data.toList.any strC = B at hcall HF
  by_cases h1 : n < 0
  · have HE : Hid (errV (valE ⟨3, n, s⟩) = .iface 65 (.int .i64 1)) := by rw [HF.out]; rw [if_pos (Or.inl h1)]; rfl
    clear HF
    go_enter Tryz.func70, Tryz.ntmps70
    go_wp2_with (go_at_call 61; refine hcall.mono ?_; rintro e w' ⟨rfl, hb, c0, c1, c2⟩)
    go_ret
    exact ⟨by rw [HE.out]; rfl, hb⟩
  · by_cases h2 : 0 < n
    · have HE : Hid (errV (valE ⟨3, n, s⟩) = .iface 65 (.int .i64 1)) := by rw [HF.out]; rw [if_pos (Or.inr h2)]; rfl
      clear HF
      go_enter Tryz.func70, Tryz.ntmps70
      go_wp2_with (go_at_call 61; refine hcall.mono ?_; rintro e w' ⟨rfl, hb, c0, c1, c2⟩)
      go_ret
      exact ⟨by rw [HE.out]; rfl, hb⟩
    · have h1' : 0 ≤ n := by omega
      have h2' : n ≤ 0 := by omega
      have h1b : decide (n < 0) = false := by simp; omega
      have h2b : decide (0 < n) = false := by simp; omega
      by_cases h3 : 20 < s.size
      · have h3' : (20 : Int) < (s.size : Int) := by omega
        have HE : Hid (errV (valE ⟨3, n, s⟩) = .iface 65 (.int .i64 4)) := by rw [HF.out]; rw [if_neg (by omega), if_pos h3]; rfl
        clear HF
        go_enter Tryz.func70, Tryz.ntmps70
        go_wp2_with (go_at_call 61; refine hcall.mono ?_; rintro e w' ⟨rfl, hb, c0, c1, c2⟩)
        go_ret
        exact ⟨by rw [HE.out]; rfl, hb⟩
      · have h3' : decide ((20 : Int) < (s.size : Int)) = false := by simp; omega
        have h3'' : (s.size : Int) ≤ 20 := by omega
        cases B with
        | true =>
          have HE : Hid (errV (valE ⟨3, n, s⟩) = .iface 65 (.int .i64 2)) := by rw [HF.out]; rw [if_neg (by omega), if_neg h3]; rfl
          clear HF
          go_enter Tryz.func70, Tryz.ntmps70
          go_wp2_with (go_at_call 61; refine hcall.mono ?_; rintro e w' ⟨rfl, hb, c0, c1, c2⟩)
          go_ret
          exact ⟨by rw [HE.out]; rfl, hb⟩
        | false =>
          have HE : Hid (errV (valE ⟨3, n, s⟩) = .nilIface) := by rw [HF.out]; rw [if_neg (by omega), if_neg h3]; rfl
          clear HF
          go_enter Tryz.func70, Tryz.ntmps70
          go_wp2_with (go_at_call 61; refine hcall.mono ?_; rintro e w' ⟨rfl, hb, c0, c1, c2⟩)
          go_ret
          exact ⟨by rw [HE.out]; rfl, hb⟩
end

theorem check_any (v : Val) (hv : v.ok) (w : World) :
    Calls Tryz.prog 70 #[.agg #[.int .i64 v.ty, .int .i64 v.n, .string v.s]] w fun e w' => e = .returned (errV (valE v)) ∧ Below w.heap.size w w' := by
  obtain ⟨ty, n, s⟩ := v
  obtain ⟨_, _, hs⟩ := hv
  show Calls Tryz.prog 70 #[.agg #[.int .i64 ty, .int .i64 n, .string s]] w _
  by_cases h1 : ty = 1
  · subst h1; exact check_int n s w hs
  by_cases h2 : ty = 2
  · subst h2; exact check_bool n s w hs
  by_cases h3 : ty = 3
  · subst h3; exact check_text n s w hs
  exact check_bad ty n s w (by rintro (h | h | h) <;> contradiction)
end Go.Proofs.YtkaolglpmajeaaaGreat

/- Contracts: what record.prop, record.Check, graph.Id, cmp.Compare, strings.Compare, record.Find and graph.Find of the program answer. -/
namespace Go.Proofs.YtkaolglpmajeaaaGreat
open Go.RowKit

/-- The fault of the first that has one; 0: none has. -/
def firstE {D : Type} (f : D → Int) : List D → Int
  | [] => 0
  | d :: r => if f d = 0 then firstE f r else f d
theorem firstE_hit {D : Type} {f : D → Int} : ∀ {l : List D} {k : Nat} {d : D}, (∀ j x, j < k → l[j]? = some x → f x = 0) → l[k]? = some d → f d ≠ 0 → firstE f l = f d
  | a :: r, 0, d, _, h2, h3 => by
    simp at h2
    subst h2
    simp [firstE, h3]
  | a :: r, k + 1, d, h1, h2, h3 => by
    have h0 : f a = 0 := h1 0 a (by omega) rfl
    simp only [firstE, h0, if_true]
    exact firstE_hit (l := r) (k := k) (fun j x hj hx => h1 (j + 1) x (by omega) (by simpa using hx)) (by simpa using h2) h3
theorem firstE_none {D : Type} {f : D → Int} : ∀ {l : List D}, (∀ j x, j < l.length → l[j]? = some x → f x = 0) → firstE f l = 0
  | [], _ => rfl
  | a :: r, h1 => by
    have h0 : f a = 0 := h1 0 a (by simp) rfl
    simp only [firstE, h0, if_true]
    exact firstE_none (l := r) (fun j x hj hx => h1 (j + 1) x (by simpa using hj) (by simpa using hx))
theorem zero_step {D : Type} {f : D → Int} {l : List D} {k : Nat} {d : D} (h1 : ∀ j x, j < k → l[j]? = some x → f x = 0) (h2 : l[k]? = some d) (h3 : f d = 0) : ∀ j x, j < k + 1 → l[j]? = some x → f x = 0 := by
  intro j x hj hx
  by_cases e : j = k
  · subst e
    have := h2.symm.trans hx
    cases this
    exact h3
  · exact h1 j x (by omega) hx

/-- Each is ahead of the next one. -/
def chain {D : Type} (R : D → D → Bool) : List D → Bool
  | a :: b :: r => R a b && chain R (b :: r)
  | _ => true
theorem chain_iff {D : Type} {R : D → D → Bool} : ∀ {l : List D}, chain R l = true ↔ ∀ i a b, l[i]? = some a → l[i + 1]? = some b → R a b = true
  | [] => by simp [chain]
  | [a] => by simp [chain]
  | a :: b :: r => by
    simp only [chain, Bool.and_eq_true]
    rw [chain_iff (l := b :: r)]
    constructor
    · rintro ⟨h1, h2⟩ i x y hx hy
      match i, hx, hy with
      | 0, hx, hy => simp at hx hy; subst hx; subst hy; exact h1
      | i + 1, hx, hy => exact h2 i x y (by simpa using hx) (by simpa using hy)
    · intro h
      exact ⟨h 0 a b rfl rfl, fun i x y hx hy => h (i + 1) x y (by simpa using hx) (by simpa using hy)⟩
theorem chain_not {D : Type} {R : D → D → Bool} {l : List D} {i : Nat} {a b : D} (h1 : l[i]? = some a) (h2 : l[i + 1]? = some b) (h3 : R a b = false) : chain R l = false := by
  cases h : chain R l with
  | false => rfl
  | true => have := chain_iff.1 h i a b h1 h2; rw [h3] at this; cases this
theorem chain_step {D : Type} {R : D → D → Bool} {l : List D} {k : Nat} {a b : D} (h0 : ∀ i a b, i < k → l[i]? = some a → l[i + 1]? = some b → R a b = true) (h1 : l[k]? = some a) (h2 : l[k + 1]? = some b) (h3 : R a b = true) :
    ∀ i a b, i < k + 1 → l[i]? = some a → l[i + 1]? = some b → R a b = true := by
  intro i x y hi hx hy
  by_cases e : i = k
  · subst e
    have e1 := h1.symm.trans hx
    have e2 := h2.symm.trans hy
    cases e1; cases e2
    exact h3
  · exact h0 i x y (by omega) hx hy
theorem chain_all {D : Type} {R : D → D → Bool} {l : List D} {k : Nat} (hk : l.length ≤ k + 1) (h0 : ∀ i a b, i < k → l[i]? = some a → l[i + 1]? = some b → R a b = true) : chain R l = true :=
  chain_iff.2 fun i a b hx hy => h0 i a b (by have := (List.getElem?_eq_some_iff.1 hy).1; omega) hx hy

/-- Is a text ahead of another one? -/
def ltS (a b : ByteArray) : Bool := Op.bytesLess a.toList b.toList

/-! ### record.prop, record.Check -/
def prpE (p : Prp) : Int := if nameE p.name = 0 then valE p.v else nameE p.name
def recE (r : List Prp) : Int := if 8 < r.length then 4 else if firstE prpE r = 0 then (if chain (fun a b => ltS a.name b.name) r then 0 else 7) else firstE prpE r

set_option maxHeartbeats 400000 in
theorem prop_any (p : Prp) (hp : p.ok) (w : World) :
    Calls Tryz.prog 48 #[.agg #[.string p.name, .int .i64 p.v.ty, .int .i64 p.v.n, .string p.v.s]] w fun e w' => e = .returned (errV (prpE p)) ∧ Below w.heap.size w w' := by
  obtain ⟨nm, v⟩ := p
  obtain ⟨hn, hv⟩ := hp
  have hn' : Sm nm := hn
  by_cases h : nameE nm = 0
  · have HE : Hid (errV (prpE ⟨nm, v⟩) = errV (valE v)) := by unfold prpE; rw [if_pos h]; rfl
    have hE : errV (nameE nm) = .nilIface := errV_zero h
    clear h
    go_enter Tryz.func48, Tryz.ntmps48
    go_wp2_with fail
    refine (name_any nm _ hn').mono ?_
    rintro e w1 ⟨rfl, hb1⟩
    obtain ⟨hc, hf⟩ := bcell hb1
    rw [hE]
    go_wp2_with fail
    refine (check_any v hv _).mono ?_
    rintro e w2 ⟨rfl, hb2⟩
    have hb3 : Below w.heap.size w w2 := ((((Below.refl _ _).alloc (Nat.le_refl _) _).trans (hb1.mono (by simp))).trans (hb2.mono (by have := hb1.size; simp at this; omega)))
    go_wp2_with fail
    go_ret
    exact ⟨by rw [HE.out]; rfl, hb3⟩
  · have HE : Hid (errV (prpE ⟨nm, v⟩) = .iface 65 (.int .i64 (nameE nm))) := by unfold prpE; rw [if_neg h]; exact errV_some h
    have hE : errV (nameE nm) = .iface 65 (.int .i64 (nameE nm)) := errV_some h
    clear h
    go_enter Tryz.func48, Tryz.ntmps48
    go_wp2_with fail
    refine (name_any nm _ hn').mono ?_
    rintro e w1 ⟨rfl, hb1⟩
    rw [hE]
    go_wp2_with fail
    go_ret
    exact ⟨by rw [HE.out]; rfl, ((Below.refl _ _).alloc (Nat.le_refl _) _).trans (hb1.mono (by simp))⟩
end Go.Proofs.YtkaolglpmajeaaaGreat

/- Contract: what record.Check of the program answers. -/
namespace Go.Proofs.YtkaolglpmajeaaaGreat
open Go.RowKit

set_option maxHeartbeats 1000000 in
theorem recCheck_any (r : List Prp) (v : Value) (w : World) (hv : Sl prpL w v r) :
    Calls Tryz.prog 38 #[v] w fun e w' => e = .returned (errV (recE r)) ∧ Below w.heap.size w w' := by
  obtain ⟨A, c, rfl, hlc, hcm⟩ := hv.form
  unfold maxLen at hcm
  have HF : Hid (recE r = if 8 < r.length then 4 else if firstE prpE r = 0 then (if chain (fun a b => ltS a.name b.name) r then 0 else 7) else firstE prpE r) := rfl
  by_cases h8 : 8 < r.length
  · have HE : Hid (errV (recE r) = .iface 65 (.int .i64 4)) := by rw [HF.out, if_pos h8]; rfl
    have h8' : (8 : Int) < (r.length : Int) := by omega
    go_enter Tryz.func38, Tryz.ntmps38
    go_wp2_with fail
    go_ret
    exact ⟨by rw [HE.out]; rfl, Below.refl _ _⟩
  have h8' : decide ((8 : Int) < (r.length : Int)) = false := by simp; omega
  have h8'' : (r.length : Int) ≤ 8 := by omega
  go_enter Tryz.func38, Tryz.ntmps38
  go_wp2_with fail
  go_loopw [13] (fun i wr => ∃ k : Nat, k ≤ r.length ∧ i = .int .i64 k ∧ Below w.heap.size w wr ∧ Hid (∀ j x, j < k → r[j]? = some x → prpE x = 0)) (fun i _ => r.length - (intOf i).toNat)
  case atStart => exact ⟨0, Nat.zero_le _, rfl, Below.refl _ _, fun j x hj => absurd hj (Nat.not_lt_zero _)⟩
  case round =>
    obtain ⟨k, hk, rfl, hb, HA⟩ := hrel
    by_cases hlt : k < r.length
    · obtain ⟨d, hd⟩ : ∃ d, r[k]? = some d := ⟨_, List.getElem?_eq_getElem hlt⟩
      obtain ⟨b, o, rfl, hok, x0, x1, x2, x3⟩ := prp_at (hv.below hb) hd
      have HD : Hid (r[k]? = some d) := hd
      clear hd hv
      by_cases hz : prpE d = 0
      · have hE : errV (prpE d) = .nilIface := errV_zero hz
        have HZ : Hid (prpE d = 0) := hz
        clear hz
        go_wp2_with fail
        refine (prop_any d hok _).mono ?_
        rintro e w1 ⟨rfl, hb1⟩
        rw [hE]
        have hb2 : Below w.heap.size w w1 := (hb.alloc hb.size _).trans (hb1.mono (by have := hb.size; simp; omega))
        go_wp2_with fail
        go_roundw
        case rel => exact ⟨k + 1, by omega, by go_num, hb2, zero_step HA.out HD.out HZ.out⟩
        case measure => simp [intOf]; omega
      · have hE : errV (prpE d) = .iface 65 (.int .i64 (prpE d)) := errV_some hz
        have HE : Hid (errV (recE r) = .iface 65 (.int .i64 (prpE d))) := by
          have := firstE_hit HA.out HD.out hz
          rw [HF.out, if_neg h8, this, if_neg hz]; exact hE
        clear hz
        go_wp2_with fail
        refine (prop_any d hok _).mono ?_
        rintro e w1 ⟨rfl, hb1⟩
        rw [hE]
        have hb2 : Below w.heap.size w w1 := (hb.alloc hb.size _).trans (hb1.mono (by have := hb.size; simp; omega))
        go_wp2_with fail
        go_ret
        exact ⟨by rw [HE.out]; rfl, hb2⟩
    · have hkl : k = r.length := by omega
      subst hkl
      have HG : Hid (recE r = if chain (fun a b => ltS a.name b.name) r then 0 else 7) := by
        rw [HF.out, if_neg h8, if_pos (firstE_none HA.out)]; rfl
      clear HF HA
      obtain ⟨wo, rfl⟩ : ∃ wo : World, wo = wr := ⟨_, rfl⟩
      go_wp2_with fail
      go_loopw [6] (fun i wr => ∃ k : Nat, (k = 0 ∨ k < r.length) ∧ i = .int .i64 ((k : Int) + 1) ∧ Below w.heap.size w wr ∧ Hid (∀ i a b, i < k → r[i]? = some a → r[i + 1]? = some b → ltS a.name b.name = true)) (fun i _ => r.length + 1 - (intOf i).toNat)
      case atStart => exact ⟨0, Or.inl rfl, rfl, hb, fun j _ _ hj => absurd hj (Nat.not_lt_zero _)⟩
      case round =>
        obtain ⟨k, hk, rfl, hb, HA⟩ := hrel
        by_cases hlt : k + 1 < r.length
        · obtain ⟨d, hd⟩ : ∃ d, r[k]? = some d := ⟨_, List.getElem?_eq_getElem (by omega)⟩
          obtain ⟨d', hd'⟩ : ∃ d, r[k + 1]? = some d := ⟨_, List.getElem?_eq_getElem hlt⟩
          obtain ⟨b, o, rfl, hall⟩ := prp_all (hv.below hb) (by omega)
          obtain ⟨_, x0, _⟩ := hall _ _ hd
          obtain ⟨_, y0, _⟩ := hall _ _ hd'
          clear hall
          have hlt' : (k : Int) + 1 < (r.length : Int) := by omega
          have HD : Hid (r[k]? = some d) := hd
          have HD' : Hid (r[k + 1]? = some d') := hd'
          clear hd hd' hv
          cases hR : ltS d.name d'.name with
          | true =>
            have hR' : Op.bytesLess d.name.toList d'.name.toList = true := hR
            have HR : Hid (ltS d.name d'.name = true) := hR
            clear hR
            go_wp2_with fail
            go_quiet (fail)
            go_wp2_with fail
            go_roundw
            case rel => exact ⟨k + 1, by omega, by go_num, below_drewN hb _, chain_step HA.out HD.out HD'.out HR.out⟩
            case measure => simp [intOf]; omega
          | false =>
            have hR' : Op.bytesLess d.name.toList d'.name.toList = false := hR
            have HE : Hid (errV (recE r) = .iface 65 (.int .i64 7)) := by
              rw [HG.out, chain_not HD.out HD'.out hR]; rfl
            clear hR
            go_wp2_with fail
            go_quiet (fail)
            go_wp2_with fail
            go_ret
            exact ⟨by rw [HE.out]; rfl, below_drewN hb _⟩
        · have hlt' : (r.length : Int) ≤ (k : Int) + 1 := by omega
          have HE : Hid (errV (recE r) = .nilIface) := by
            rw [HG.out, chain_all (by omega) HA.out]; rfl
          clear hv
          go_wp2_with fail
          go_ret
          exact ⟨by rw [HE.out]; rfl, hb⟩
end Go.Proofs.YtkaolglpmajeaaaGreat

/- Contracts: what cmp.Compare, cmp.Or, strings.Compare, graph.Id, graph.OfNode, graph.OfTie and graph.Order answer. -/
namespace Go.Proofs.YtkaolglpmajeaaaGreat
open Go.RowKit

set_option maxHeartbeats 400000 in
theorem id_any (n : Int) (w : World) :
    Calls Tryz.prog 17 #[.int .i64 n] w fun e w' => e = .returned (.bool (decide (1 ≤ n) && decide (n ≤ 1000))) ∧ w = w' := by
  by_cases h1 : 1 ≤ n
  · go_enter Tryz.func17, Tryz.ntmps17
    go_wp2
    go_ret
    exact ⟨by simp [h1], rfl⟩
  · have h1' : decide (1 ≤ n) = false := by simpa using h1
    go_enter Tryz.func17, Tryz.ntmps17
    go_wp2
    go_ret
    exact ⟨by simp, rfl⟩
def idB (n : Int) : Bool := decide (1 ≤ n) && decide (n ≤ 1000)
theorem id_b (n : Int) (w : World) : Calls Tryz.prog 17 #[.int .i64 n] w fun e w' => e = .returned (.bool (idB n)) ∧ w = w' := id_any n w

theorem nan_any (n : Int) (w : World) :
    Calls Tryz.prog 64 #[.int .i64 n] w fun e w' => e = .returned (.bool false) ∧ w = w' := by
  go_enter Tryz.func64, Tryz.ntmps64
  go_wp2
  go_ret
  exact ⟨by simp, rfl⟩
def cmpI (a b : Int) : Int := if a < b then -1 else if b < a then 1 else 0
theorem cmp_any (a b : Int) (w : World) :
    Calls Tryz.prog 41 #[.int .i64 a, .int .i64 b] w fun e w' => e = .returned (.int .i64 (cmpI a b)) ∧ w = w' := by
  by_cases h1 : a < b
  · have HE : Hid (cmpI a b = -1) := by unfold cmpI; rw [if_pos h1]; rfl
    go_enter Tryz.func41, Tryz.ntmps41
    go_wp2_with (go_at_call 64; refine (nan_any _ _).mono ?_; rintro e w' ⟨rfl, rfl⟩)
    go_ret
    exact ⟨by rw [HE.out]; rfl, rfl⟩
  · by_cases h2 : b < a
    · have HE : Hid (cmpI a b = 1) := by unfold cmpI; rw [if_neg h1, if_pos h2]; rfl
      have h1' : b ≤ a := by omega
      go_enter Tryz.func41, Tryz.ntmps41
      go_wp2_with (go_at_call 64; refine (nan_any _ _).mono ?_; rintro e w' ⟨rfl, rfl⟩)
      go_ret
      exact ⟨by rw [HE.out]; rfl, rfl⟩
    · have HE : Hid (cmpI a b = 0) := by unfold cmpI; rw [if_neg h1, if_neg h2]; rfl
      have h1' : b ≤ a := by omega
      have h2' : a ≤ b := by omega
      go_enter Tryz.func41, Tryz.ntmps41
      go_wp2_with (go_at_call 64; refine (nan_any _ _).mono ?_; rintro e w' ⟨rfl, rfl⟩)
      go_ret
      exact ⟨by rw [HE.out]; rfl, rfl⟩

/-- Texts by bytes: -1, 0, 1. -/
def cmpS (a b : ByteArray) : Int := Lib.compareBytes a.data.toList b.data.toList
set_option maxHeartbeats 1000000 in
set_option maxRecDepth 100000 in
theorem cmpString_any (a b : ByteArray) (w : World) :
    Calls Tryz.prog 63 #[.string a, .string b] w fun e w' => e = .returned (.int .i64 (cmpS a b)) ∧ w = w' := by
  go_enter Tryz.func63, Tryz.ntmps63
  go_wp2_with fail
  rw [run_callFunc_extern Tryz.func89 (by kernel_rfl) (by kernel_rfl) (by kernel_rfl) (e := Extern.BytealgCompare.compare) (by kernel_rfl), Lib.run_compareString]
  simp only [Result.andThen]
  rw [Oper.upon_value]
  go_wp2_with fail
  go_ret
  exact ⟨rfl, rfl⟩
theorem scmp_any (a b : ByteArray) (w : World) :
    Calls Tryz.prog 40 #[.string a, .string b] w fun e w' => e = .returned (.int .i64 (cmpS a b)) ∧ w = w' := by
  go_enter Tryz.func40, Tryz.ntmps40
  go_wp2_with (go_at_call 63; refine (cmpString_any _ _ _).mono ?_; rintro e w' ⟨rfl, rfl⟩)
  go_ret
  exact ⟨rfl, rfl⟩

theorem cmpI_i64 (a b : Int) : I64 (cmpI a b) := by unfold cmpI I64; split <;> (try split) <;> omega
theorem compareBytes_small : ∀ (a b : List UInt8), Lib.compareBytes a b = -1 ∨ Lib.compareBytes a b = 0 ∨ Lib.compareBytes a b = 1
  | [], [] => by simp [Lib.compareBytes]
  | [], _ :: _ => by simp [Lib.compareBytes]
  | _ :: _, [] => by simp [Lib.compareBytes]
  | a :: x, b :: y => by
    unfold Lib.compareBytes
    split
    · simp
    · split
      · simp
      · exact compareBytes_small x y
theorem cmpS_i64 (a b : ByteArray) : I64 (cmpS a b) := by
  unfold cmpS I64
  rcases compareBytes_small a.data.toList b.data.toList with h | h | h <;> rw [h] <;> omega

theorem heap_at_new (W : World) (o : Obj) (b : Nat) (hb : b = W.heap.size) : (W.alloc o).heap[b]? = some o := by subst hb; exact heap_alloc_new _ _

/-- The first that is not 0; else 0. -/
def orI : List Int → Int
  | [] => 0
  | a :: r => if a = 0 then orI r else a
theorem orI_eq (l : List Int) : orI l = firstE id l := by
  induction l with
  | nil => rfl
  | cons a r ih => simp [orI, firstE, ih]
set_option maxHeartbeats 400000 in
theorem or_any (l : List Int) (v : Value) (w : World) (hv : Sl intL w v l) :
    Calls Tryz.prog 39 #[v] w fun e w' => e = .returned (.int .i64 (orI l)) ∧ w = w' := by
  rw [orI_eq]
  obtain ⟨A, c, rfl, hlc, hcm⟩ := hv.form
  unfold maxLen at hcm
  go_enter Tryz.func39, Tryz.ntmps39
  go_wp2_with fail
  go_loop [8] (fun i => ∃ k : Nat, k ≤ l.length ∧ i = .int .i64 k ∧ Hid (∀ j x, j < k → l[j]? = some x → id x = 0)) (fun i => l.length - (intOf i).toNat)
  case atStart => exact ⟨0, Nat.zero_le _, rfl, fun j x hj => absurd hj (Nat.not_lt_zero _)⟩
  case round =>
    obtain ⟨k, hk, rfl, HA⟩ := hrel
    by_cases hlt : k < l.length
    · obtain ⟨d, hd⟩ : ∃ d, l[k]? = some d := ⟨_, List.getElem?_eq_getElem hlt⟩
      obtain ⟨b, o, rfl, _, hcell⟩ := int_at hv hd
      have HD : Hid (l[k]? = some d) := hd
      clear hd hv
      by_cases hz : d = 0
      · subst hz
        go_wp2_with fail
        go_round
        case rel => exact ⟨k + 1, by omega, by go_num, zero_step HA.out HD.out rfl⟩
        case measure => simp [intOf]; omega
      · have hzb : (d != 0) = true := by simpa using hz
        have HE : Hid (firstE id l = d) := firstE_hit HA.out HD.out hz
        clear hz
        go_wp2_with fail
        go_ret
        exact ⟨by rw [HE.out]; rfl, rfl⟩
    · have hkl : k = l.length := by omega
      subst hkl
      have HE : Hid (firstE id l = 0) := firstE_none HA.out
      clear hv
      go_wp2_with fail
      go_ret
      exact ⟨by rw [HE.out]; rfl, rfl⟩

/-! ### graph.OfNode, graph.OfTie, graph.Order -/
def nodE (n : Nod) : Int := if idB n.id = false then 1 else if nameE n.kind = 0 then recE n.props else nameE n.kind
def tieE (t : Tie) : Int := if nameE t.bond = 0 then (if (idB t.src && idB t.dst) then 0 else 1) else nameE t.bond
def tieO (a b : Tie) : Int := orI [cmpS a.bond b.bond, cmpI a.src b.src, cmpI a.dst b.dst]

set_option maxHeartbeats 400000 in
theorem ofNode_any (n : Nod) (v : Value) (w : World) (hi : Sm n.kind) (hv : Sl prpL w v n.props) :
    Calls Tryz.prog 18 #[.agg #[.int .i64 n.id, .string n.kind, v]] w fun e w' => e = .returned (errV (nodE n)) ∧ Below w.heap.size w w' := by
  obtain ⟨A, c, rfl, _, _⟩ := hv.form
  have HF : Hid (nodE n = if idB n.id = false then 1 else if nameE n.kind = 0 then recE n.props else nameE n.kind) := rfl
  obtain ⟨id, kind, props⟩ := n
  have hi' : Sm kind := hi
  have hb0 : Below w.heap.size w (w.alloc (.cells #[.int .i64 id, .string kind, .slice A props.length c] 40)) := (Below.refl _ _).alloc (Nat.le_refl _) _
  cases h1 : idB id with
  | false =>
    have HE : Hid (errV (nodE ⟨id, kind, props⟩) = .iface 65 (.int .i64 1)) := by rw [HF.out]; simp only [h1, if_true]; rfl
    go_enter Tryz.func18, Tryz.ntmps18
    go_wp2_with (go_at_call 17; refine (id_b _ _).mono ?_; rintro e w' ⟨rfl, rfl⟩)
    go_ret
    exact ⟨by rw [HE.out]; rfl, hb0⟩
  | true =>
    by_cases h2 : nameE kind = 0
    · have HE : Hid (errV (nodE ⟨id, kind, props⟩) = errV (recE props)) := by unfold Hid; rw [HF.out]; simp only [h1, h2, if_true, Bool.true_eq_false, if_false]
      have hE : errV (nameE kind) = .nilIface := errV_zero h2
      clear h2
      go_enter Tryz.func18, Tryz.ntmps18
      go_wp2_with (go_at_call 17; refine (id_b _ _).mono ?_; rintro e w' ⟨rfl, rfl⟩)
      refine (name_any kind _ hi').mono ?_
      rintro e w1 ⟨rfl, hb1⟩
      obtain ⟨hc, hf⟩ := bcell hb1
      have hb2 : Below w.heap.size w w1 := hb0.trans (hb1.mono hb0.size)
      rw [hE]
      go_wp2_with fail
      refine (recCheck_any props _ _ (hv.below hb2)).mono ?_
      rintro e w2 ⟨rfl, hb3⟩
      go_wp2_with fail
      go_ret
      exact ⟨by rw [HE.out]; rfl, hb2.trans (hb3.mono hb2.size)⟩
    · have HE : Hid (errV (nodE ⟨id, kind, props⟩) = .iface 65 (.int .i64 (nameE kind))) := by unfold Hid; rw [HF.out]; simp only [h1, h2, Bool.true_eq_false, if_false]; exact errV_some h2
      have hE : errV (nameE kind) = .iface 65 (.int .i64 (nameE kind)) := errV_some h2
      clear h2
      go_enter Tryz.func18, Tryz.ntmps18
      go_wp2_with (go_at_call 17; refine (id_b _ _).mono ?_; rintro e w' ⟨rfl, rfl⟩)
      refine (name_any kind _ hi').mono ?_
      rintro e w1 ⟨rfl, hb1⟩
      have hb2 : Below w.heap.size w w1 := hb0.trans (hb1.mono hb0.size)
      rw [hE]
      go_wp2_with fail
      go_ret
      exact ⟨by rw [HE.out]; rfl, hb2⟩

set_option maxHeartbeats 400000 in
theorem ofTie_any (t : Tie) (w : World) (hs : Sm t.bond) :
    Calls Tryz.prog 19 #[.agg #[.string t.bond, .int .i64 t.src, .int .i64 t.dst]] w fun e w' => e = .returned (errV (tieE t)) ∧ Below w.heap.size w w' := by
  have HF : Hid (tieE t = if nameE t.bond = 0 then (if (idB t.src && idB t.dst) then 0 else 1) else nameE t.bond) := rfl
  obtain ⟨bond, src, dst⟩ := t
  have hs : Sm bond := hs
  have hb0 : Below w.heap.size w (w.alloc (.cells #[.string bond, .int .i64 src, .int .i64 dst] 46)) := (Below.refl _ _).alloc (Nat.le_refl _) _
  by_cases h1 : nameE bond = 0
  · have hE : errV (nameE bond) = .nilIface := errV_zero h1
    have HG : Hid (tieE ⟨bond, src, dst⟩ = if (idB src && idB dst) then 0 else 1) := by unfold Hid; rw [HF.out]; simp only [h1, if_true]
    clear h1
    cases h2 : idB src with
    | false =>
      have HE : Hid (errV (tieE ⟨bond, src, dst⟩) = .iface 65 (.int .i64 1)) := by rw [HG.out, h2]; rfl
      go_enter Tryz.func19, Tryz.ntmps19
      go_wp2_with fail
      refine (name_any bond _ hs).mono ?_
      rintro e w1 ⟨rfl, hb1⟩
      obtain ⟨hc, hf⟩ := bcell hb1
      have hb2 : Below w.heap.size w w1 := hb0.trans (hb1.mono hb0.size)
      rw [hE]
      go_wp2_with (go_at_call 17; refine (id_b _ _).mono ?_; rintro e w' ⟨rfl, rfl⟩)
      go_ret
      exact ⟨by rw [HE.out]; rfl, hb2⟩
    | true =>
      cases h3 : idB dst with
      | false =>
        have HE : Hid (errV (tieE ⟨bond, src, dst⟩) = .iface 65 (.int .i64 1)) := by rw [HG.out, h2, h3]; rfl
        go_enter Tryz.func19, Tryz.ntmps19
        go_wp2_with fail
        refine (name_any bond _ hs).mono ?_
        rintro e w1 ⟨rfl, hb1⟩
        obtain ⟨hc, hf⟩ := bcell hb1
        have hb2 : Below w.heap.size w w1 := hb0.trans (hb1.mono hb0.size)
        rw [hE]
        go_wp2_with (go_at_call 17; refine (id_b _ _).mono ?_; rintro e w' ⟨rfl, rfl⟩)
        go_ret
        exact ⟨by rw [HE.out]; rfl, hb2⟩
      | true =>
        have HE : Hid (errV (tieE ⟨bond, src, dst⟩) = .nilIface) := by rw [HG.out, h2, h3]; rfl
        go_enter Tryz.func19, Tryz.ntmps19
        go_wp2_with fail
        refine (name_any bond _ hs).mono ?_
        rintro e w1 ⟨rfl, hb1⟩
        obtain ⟨hc, hf⟩ := bcell hb1
        have hb2 : Below w.heap.size w w1 := hb0.trans (hb1.mono hb0.size)
        rw [hE]
        go_wp2_with (go_at_call 17; refine (id_b _ _).mono ?_; rintro e w' ⟨rfl, rfl⟩)
        go_ret
        exact ⟨by rw [HE.out]; rfl, hb2⟩
  · have HE : Hid (errV (tieE ⟨bond, src, dst⟩) = .iface 65 (.int .i64 (nameE bond))) := by unfold Hid; rw [HF.out]; simp only [h1, if_false]; exact errV_some h1
    have hE : errV (nameE bond) = .iface 65 (.int .i64 (nameE bond)) := errV_some h1
    clear h1
    go_enter Tryz.func19, Tryz.ntmps19
    go_wp2_with fail
    refine (name_any bond _ hs).mono ?_
    rintro e w1 ⟨rfl, hb1⟩
    obtain ⟨hc, hf⟩ := bcell hb1
    have hb2 : Below w.heap.size w w1 := hb0.trans (hb1.mono hb0.size)
    rw [hE]
    go_wp2_with (go_at_call 17; refine (id_b _ _).mono ?_; rintro e w' ⟨rfl, rfl⟩)
    go_ret
    exact ⟨by rw [HE.out]; rfl, hb2⟩

set_option maxHeartbeats 1000000 in
theorem order_any (a b : Tie) (w : World) :
    Calls Tryz.prog 20 #[.agg #[.string a.bond, .int .i64 a.src, .int .i64 a.dst], .agg #[.string b.bond, .int .i64 b.src, .int .i64 b.dst]] w fun e w' => e = .returned (.int .i64 (tieO a b)) ∧ Below w.heap.size w w' := by
  have HF : Hid (tieO a b = orI [cmpS a.bond b.bond, cmpI a.src b.src, cmpI a.dst b.dst]) := rfl
  go_enter Tryz.func20, Tryz.ntmps20
  go_wp2_with fail
  refine wp_quiet_tail 15 (by kernel_rfl) (by kernel_rfl) ?_
  simp only [List.take_succ_cons, List.take_zero, List.drop_succ_cons, List.drop_zero]
  repeat (go_big_quiet_step (first | (go_at_call 40; exact Calls.quiet_of_same ((scmp_any _ _ _).mono fun _ _ h => ⟨h.1, h.2.symm⟩)) | (go_at_call 41; exact Calls.quiet_of_same ((cmp_any _ _ _).mono fun _ _ h => ⟨h.1, h.2.symm⟩))))
  refine wpQuiet_nil ?_
  intro _ hw'
  obtain ⟨nq, hw''⟩ := hw'
  subst hw''
  have hI : ∀ x ∈ [cmpS a.bond b.bond, cmpI a.src b.src, cmpI a.dst b.dst], I64 x := by
    intro x hx
    simp only [List.mem_cons, List.not_mem_nil, or_false] at hx
    rcases hx with rfl | rfl | rfl
    · exact cmpS_i64 _ _
    · exact cmpI_i64 _ _
    · exact cmpI_i64 _ _
  go_wp2_with fail
  refine (or_any [cmpS a.bond b.bond, cmpI a.src b.src, cmpI a.dst b.dst] _ _ ?_).mono ?_
  · exact sl_ints [cmpS a.bond b.bond, cmpI a.src b.src, cmpI a.dst b.dst] hI 3 (by simp) (by unfold maxLen; omega) (heap_at_new _ _ _ (by simp [World.drewN]))
  rintro e w' ⟨rfl, rfl⟩
  go_wp2_with fail
  go_ret
  refine ⟨by rw [HF.out]; rfl, Below.alloc (below_drewN (((Below.refl _ _).alloc (Nat.le_refl _) _).alloc (by simp) _) _) (by simp [World.drewN]; omega) _⟩
end Go.Proofs.YtkaolglpmajeaaaGreat
