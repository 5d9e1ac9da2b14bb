/- Parts: CloA, Same, Cmp, RecS, GrC, TieP, VtT, VtC, VtR. -/
import Derived.Test.YtakidgndipnciaaDoorMg04
import Derived.WalkSpells
import Derived.Test.YtakidgndipnciaaDoorRows
import Derived.Lib.SliceRun
import Derived.Lib.Join
import Derived.Lib.Split
import Derived.Lib.CutLaws
/- Plain: rows of structs, cell by cell: a list's cells, one behind the other; slices.Clone. No condition. -/
namespace Go.Proofs.YtakidgndipnciaaDoor
open Go Go.RowKit

section
variable {D : Type} {L : Lay D}
/-- The cells xs are the list's, one behind the other. -/
def Row (L : Lay D) (w : World) : List D → List Value → Prop
  | [], xs => xs = []
  | d :: l, xs => ∃ cs ys, xs = cs ++ ys ∧ L.cells w d cs ∧ Row L w l ys
theorem Row.nil (w : World) : Row L w [] [] := rfl
theorem Row.len {w : World} : ∀ {l : List D} {xs : List Value}, Row L w l xs → xs.length = l.length * L.sz
  | [], xs, h => by rw [show xs = [] from h]; simp
  | d :: l, xs, h => by
    obtain ⟨cs, ys, rfl, hc, hr⟩ := h
    rw [List.length_append, L.len hc, hr.len, List.length_cons, Nat.add_mul]; omega
theorem Row.one {w : World} {d : D} {cs : List Value} (h : L.cells w d cs) : Row L w [d] cs := ⟨cs, [], by simp, h, rfl⟩
theorem Row.append {w : World} : ∀ {l m : List D} {xs ys : List Value}, Row L w l xs → Row L w m ys → Row L w (l ++ m) (xs ++ ys)
  | [], m, xs, ys, h, k => by rw [show xs = [] from h]; simpa using k
  | d :: l, m, xs, ys, h, k => by
    obtain ⟨cs, zs, rfl, hc, hr⟩ := h
    exact ⟨cs, zs ++ ys, by simp, hc, hr.append k⟩
theorem Row.below {w w' : World} (hb : Below w.heap.size w w') : ∀ {l : List D} {xs : List Value}, Row L w l xs → Row L w' l xs
  | [], _, h => h
  | _ :: _, _, h => by
    obtain ⟨cs, zs, rfl, hc, hr⟩ := h
    exact ⟨cs, zs, rfl, L.below hb hc, hr.below hb⟩
theorem Row.split {w : World} : ∀ {l : List D} {xs : List Value} (i : Nat), i ≤ l.length → Row L w l xs → Row L w (l.take i) (xs.take (i * L.sz)) ∧ Row L w (l.drop i) (xs.drop (i * L.sz))
  | l, xs, 0, _, h => by simpa using ⟨Row.nil w, h⟩
  | [], xs, i + 1, hi, h => by simp at hi
  | d :: l, xs, i + 1, hi, h => by
    obtain ⟨cs, ys, rfl, hc, hr⟩ := h
    have hl := L.len hc
    obtain ⟨h1, h2⟩ := hr.split i (by simpa using hi)
    have e : (i + 1) * L.sz = cs.length + i * L.sz := by rw [hl, Nat.add_mul]; omega
    rw [e, List.take_length_add_append, List.drop_length_add_append]
    exact ⟨⟨cs, _, rfl, hc, h1⟩, h2⟩
theorem Row.take {w : World} {l : List D} {xs : List Value} (h : Row L w l xs) (i : Nat) (hi : i ≤ l.length) : Row L w (l.take i) (xs.take (i * L.sz)) := (h.split i hi).1
theorem Row.drop {w : World} {l : List D} {xs : List Value} (h : Row L w l xs) (i : Nat) (hi : i ≤ l.length) : Row L w (l.drop i) (xs.drop (i * L.sz)) := (h.split i hi).2
theorem Row.get {w : World} : ∀ {l : List D} {xs : List Value} {i : Nat} {d : D}, Row L w l xs → l[i]? = some d → ∃ cs, L.cells w d cs ∧ ∀ j u, cs[j]? = some u → xs[i * L.sz + j]? = some u
  | [], _, i, d, _, h => by simp at h
  | e :: l, xs, 0, d, h, hd => by
    obtain ⟨cs, ys, rfl, hc, hr⟩ := h
    simp at hd; subst hd
    exact ⟨cs, hc, fun j u hj => by rw [Nat.zero_mul, Nat.zero_add, List.getElem?_append_left (List.getElem?_eq_some_iff.1 hj).1]; exact hj⟩
  | e :: l, xs, i + 1, d, h, hd => by
    obtain ⟨cs, ys, rfl, hc, hr⟩ := h
    obtain ⟨cs', hc', hx⟩ := hr.get (i := i) (by simpa using hd)
    refine ⟨cs', hc', fun j u hj => ?_⟩
    have hl := L.len hc
    rw [List.getElem?_append_right (by rw [hl, Nat.add_mul]; omega)]
    have : (i + 1) * L.sz + j - cs.length = i * L.sz + j := by rw [hl, Nat.add_mul]; omega
    rw [this]
    exact hx j u hj
theorem Row.snoc {w : World} {l : List D} {xs cs : List Value} {d : D} (h : Row L w l xs) (hc : L.cells w d cs) : Row L w (l ++ [d]) (xs ++ cs) := h.append (Row.one hc)
theorem Own.row {w : World} {B : Nat} {e : TypeId} {v : Value} {l : List D} {xs : List Value} (h : Own w B e L.sz v l.length xs) (hr : Row L w l xs) : Sl L w v l := by
  obtain ⟨A, c, rfl, h1, h2⟩ := h.form
  refine ⟨A, c, rfl, h1, h2, fun i d hi => ?_⟩
  obtain ⟨g, o, c', hv, _, _⟩ := h.addr (len_pos hi)
  injection hv with hA _ hc
  subst hA; subst hc
  obtain ⟨cs, hc, hx⟩ := hr.get hi
  exact ⟨g, o, cs, rfl, hc, fun j u hj => h.cell rfl (hx j u hj)⟩
end
theorem Row.flat {D : Type} {n : Nat} {ok : D → Prop} {enc : D → List Value} {hn : ∀ d, (enc d).length = n} {w : World} : ∀ {l : List D} {xs : List Value}, Row (flatL n ok enc hn) w l xs → xs = l.flatMap enc ∧ ∀ x ∈ l, ok x
  | [], xs, h => ⟨h, fun x hx => by simp at hx⟩
  | d :: l, xs, h => by
    obtain ⟨cs, ys, rfl, ⟨rfl, ho⟩, hr⟩ := h
    obtain ⟨rfl, hk⟩ := Row.flat hr
    refine ⟨by simp, fun x hx => ?_⟩
    rcases List.mem_cons.1 hx with rfl | hx
    · exact ho
    · exact hk x hx
theorem Own.made {w : World} {e : TypeId} {sz : Nat} : Own (w.alloc (.cells #[] e)) w.heap.size e sz (.slice (some ⟨w.heap.size, 0, none⟩) 0 0) 0 [] :=
  ⟨by simp, .inr ⟨_, 0, 0, #[], rfl, Nat.le_refl _, heap_alloc_new _ _, Nat.le_refl _, Nat.zero_le _, by simp, by simp⟩⟩


/-- All blocks of cells of type T are as they were. -/
def Same (T : TypeId) (w w' : World) : Prop := ∀ (k : Nat) c fr, w.heap[k]? = some (.cells c T fr) → w'.heap[k]? = some (.cells c T fr)
theorem Same.refl (T : TypeId) (w : World) : Same T w w := fun _ _ _ h => h
theorem Same.trans {T : TypeId} {a b c : World} (h : Same T a b) (k : Same T b c) : Same T a c := fun i x fr hx => k i x fr (h i x fr hx)
theorem Same.below {T : TypeId} {w w' : World} (hb : Below w.heap.size w w') : Same T w w' := fun k _ _ h => (hb.block k (Array.getElem?_eq_some_iff.1 h).1).trans h
theorem Same.alloc {T : TypeId} (w : World) (o : Obj) : Same T w (w.alloc o) := .below ((Below.refl _ _).alloc (Nat.le_refl _) _)
theorem Same.drewN {T : TypeId} (w : World) (n : Nat) : Same T w (w.drewN n) := fun _ _ _ h => h
theorem Same.drew {T : TypeId} (w : World) : Same T w w.drew := fun _ _ _ h => h
theorem Same.grown {T e : TypeId} {w w' : World} {B sz n : Nat} {v : Value} {xs : List Value} (ho : Own w B e sz v n xs) (hne : e ≠ T) (hg : w.grownBy w' v.ownBlock) : Same T w w' := fun k c fr h => by
  have hlt := (Array.getElem?_eq_some_iff.1 h).1
  refine (hg.block k hlt fun e' => ?_).trans h
  rcases ho.2 with ⟨rfl, _⟩ | ⟨g, o, cap, cur, rfl, _, hg2, _⟩
  · simp [Value.ownBlock] at e'
  · simp [Value.ownBlock] at e'
    subst e'
    rw [h] at hg2
    injection hg2 with hg2
    injection hg2 with _ h2 _
    exact hne h2.symm
theorem Same.setCell {T e : TypeId} {w : World} {p : Addr} {c : Array Value} {fr : Nat × Nat} (hp : w.heap[p.block]? = some (.cells c e fr)) (hne : e ≠ T) (u : Value) : Same T w (w.setCell p u) := fun k c' fr' h => by
  refine (Below.heap_setCell w p u k (fun e' => ?_)).trans h
  subst e'
  rw [h] at hp
  injection hp with hp
  injection hp with _ h2 _
  exact hne h2.symm
theorem Own.same {w w' : World} {B : Nat} {e : TypeId} {sz : Nat} {v : Value} {n : Nat} {xs : List Value} (h : Own w B e sz v n xs) (hs : Same e w w') : Own w' B e sz v n xs := by
  refine ⟨h.1, ?_⟩
  rcases h.2 with hn | ⟨g, o, cap, cur, rfl, hb, hg, rest⟩
  · exact .inl hn
  · exact .inr ⟨g, o, cap, cur, rfl, hb, hs g cur _ hg, rest⟩

theorem own_of_block {w : World} {b B : Nat} {e : TypeId} {sz n : Nat} {cs : List Value} (h : w.heap[b]? = some (.cells cs.toArray e (0, 0))) (hB : B ≤ b) (hl : cs.length = n * sz) (hm : n ≤ maxLen) : Own w B e sz (.slice (some ⟨b, 0, none⟩) n n) n cs :=
  ⟨hl, .inr ⟨b, 0, n, cs.toArray, rfl, hB, h, Nat.le_refl _, hm, by simp [hl], by rw [List.drop_zero, ← hl]; exact List.take_length⟩⟩
theorem Own.ne_block {w : World} {B : Nat} {e e' : TypeId} {sz n k : Nat} {v : Value} {xs : List Value} {c : Array Value} {fr : Nat × Nat} (ho : Own w B e sz v n xs) (h : w.heap[k]? = some (.cells c e' fr)) (hne : e' ≠ e) : some k ≠ v.ownBlock := by
  intro e1
  rcases ho.2 with ⟨rfl, _⟩ | ⟨g, o, cap, cur, rfl, _, hg2, _⟩
  · simp [Value.ownBlock] at e1
  · simp [Value.ownBlock] at e1
    subst e1
    rw [h] at hg2
    injection hg2 with hg2
    injection hg2 with _ h2 _
    exact hne h2
theorem grown_block {w w' : World} {k : Nat} {row : Option Nat} {o : Obj} (hg : w.grownBy w' row) (h : w.heap[k]? = some o) (hne : some k ≠ row) : w'.heap[k]? = some o :=
  (hg.block k (Array.getElem?_eq_some_iff.1 h).1 hne).trans h
theorem block_cell {w : World} {k : Nat} {c : Array Value} {T : TypeId} {fr : Nat × Nat} (h : w.heap[k]? = some (.cells c T fr)) (i : Nat) : w.cell? ⟨k, i, none⟩ = c[i]? := by
  simp [World.cell?, h]
theorem block_free {w : World} {k : Nat} {c : Array Value} {T : TypeId} (h : w.heap[k]? = some (.cells c T (0, 0))) (i : Nat) : w.frozen? ⟨k, i, none⟩ = false := by
  simp [World.frozen?, h]
theorem setCell_block {w : World} {k : Nat} {c : Array Value} {T : TypeId} {fr : Nat × Nat} (h : w.heap[k]? = some (.cells c T fr)) (i : Nat) (u : Value) : (w.setCell ⟨k, i, none⟩ u).heap[k]? = some (.cells (c.setIfInBounds i u) T fr) := by
  simp [World.setCell, Array.getElem?_modify, h]
open Go.RowKit



/-! ### The order of names -/
/-! ### record.Get -/
theorem res3 {w w1 : World} {T : TypeId} {c0 c1 c2 : Value} (a b c : Value) (hB : Below w.heap.size w w1) (h : w1.heap[w.heap.size]? = some (.cells #[c0, c1, c2] T (0, 0))) :
    Below w.heap.size w (((w1.setCell ⟨w.heap.size, 0, none⟩ a).setCell ⟨w.heap.size, 1, none⟩ b).setCell ⟨w.heap.size, 2, none⟩ c) ∧
    (((w1.setCell ⟨w.heap.size, 0, none⟩ a).setCell ⟨w.heap.size, 1, none⟩ b).setCell ⟨w.heap.size, 2, none⟩ c).cell? ⟨w.heap.size, 0, none⟩ = some a ∧
    (((w1.setCell ⟨w.heap.size, 0, none⟩ a).setCell ⟨w.heap.size, 1, none⟩ b).setCell ⟨w.heap.size, 2, none⟩ c).cell? ⟨w.heap.size, 1, none⟩ = some b ∧
    (((w1.setCell ⟨w.heap.size, 0, none⟩ a).setCell ⟨w.heap.size, 1, none⟩ b).setCell ⟨w.heap.size, 2, none⟩ c).cell? ⟨w.heap.size, 2, none⟩ = some c := by
  have h3 := setCell_block (setCell_block (setCell_block h 0 a) 1 b) 2 c
  exact ⟨((hB.setCell (p := ⟨_, 0, none⟩) (Nat.le_refl _) _).setCell (p := ⟨_, 1, none⟩) (Nat.le_refl _) _).setCell (p := ⟨_, 2, none⟩) (Nat.le_refl _) _, block_cell h3 0, block_cell h3 1, block_cell h3 2⟩

/-! ### What a right graph gives -/

open Go

theorem dbl_len2 (l : List UInt8) : (dbl l).length ≤ 2 * l.length := by
  induction l with
  | nil => exact Nat.le_refl _
  | cons c l ih => rw [dbl_cons]; split <;> simp <;> omega
theorem show_len {v : Val} (h : valE v = 0) : (showL v).length ≤ 42 := by
  unfold showL
  rcases val_parts h with ⟨h1, h2, h3, _⟩ | ⟨h1, _⟩ | ⟨h1, _, h3, _⟩
  · rw [if_pos h1]; have := (itoa_small h2 h3).2; omega
  · rw [if_neg (by omega), if_pos h1]
    split
    · show (4 : Nat) ≤ 42; omega
    · show (5 : Nat) ≤ 42; omega
  · rw [if_neg (by omega), if_neg (by omega)]
    have h4 := dbl_len2 v.s.data.toList
    have h5 : v.s.data.toList.length = v.s.size := by rw [Array.length_toList]; rfl
    simp only [List.length_cons, List.length_append, List.length_nil]
    omega
theorem name_len {s : ByteArray} (h : nameE s = 0) : s.data.toList.length ≤ 8 := by
  have h5 : s.data.toList.length = s.size := by rw [Array.length_toList]; rfl
  unfold nameE at h
  split at h
  · cases h
  · split at h
    · cases h
    · omega

/-- A sign is not in a text. -/
def noB (c : UInt8) (l : List UInt8) : Prop := ∀ x ∈ l, x ≠ c
theorem noB.nil {c : UInt8} : noB c [] := fun _ h => by cases h
theorem noB.cons {c x : UInt8} {l : List UInt8} (h : x ≠ c) (k : noB c l) : noB c (x :: l) := fun y hy => by
  rcases List.mem_cons.1 hy with rfl | hy
  · exact h
  · exact k y hy
theorem noB.append {c : UInt8} {a b : List UInt8} (h : noB c a) (k : noB c b) : noB c (a ++ b) := fun y hy => by
  rcases List.mem_append.1 hy with hy | hy
  · exact h y hy
  · exact k y hy
/-- A text has a first such sign, or none. -/
theorem first_sign (c : UInt8) : ∀ l : List UInt8, noB c l ∨ ∃ a r, l = a ++ c :: r ∧ noB c a
  | [] => .inl .nil
  | x :: l => by
    by_cases hx : x = c
    · exact .inr ⟨[], l, by rw [hx]; rfl, .nil⟩
    · rcases first_sign c l with h | ⟨a, r, rfl, h⟩
      · exact .inl (.cons hx h)
      · exact .inr ⟨x :: a, r, rfl, .cons hx h⟩
theorem join_two (c : UInt8) (a y : List UInt8) (m : List (List UInt8)) : Lib.join (a :: y :: m) [c] = a ++ c :: Lib.join (y :: m) [c] := by
  show [c].intercalate (a :: y :: m) = _
  have e : [c].intercalate (a :: y :: m) = a ++ [c] ++ [c].intercalate (y :: m) := by simp [List.intercalate, List.intersperse]
  rw [e]; simp [Lib.join]
theorem join_one (c : UInt8) (a : List UInt8) : Lib.join [a] [c] = a := by simp [Lib.join]
/-- Cut at each that is in no quotes. -/
def cutF (c : UInt8) : Bool → List UInt8 → List UInt8 → List (List UInt8)
  | _, cur, [] => [cur]
  | q, cur, x :: l => if x = 39 then cutF c (!q) (cur ++ [x]) l else if x = c ∧ q = false then cur :: cutF c false [] l else cutF c q (cur ++ [x]) l
def cutL (c : UInt8) (l : List UInt8) : List (List UInt8) := cutF c false [] l
/-- How a text's quotes stand behind it; none: the sign is in it, in no quotes. -/
def scanQ (c : UInt8) : Bool → List UInt8 → Option Bool
  | q, [] => some q
  | q, x :: l => if x = 39 then scanQ c (!q) l else if x = c ∧ q = false then none else scanQ c q l
theorem scanQ_cons (c : UInt8) (q : Bool) (x : UInt8) (l : List UInt8) : scanQ c q (x :: l) = if x = 39 then scanQ c (!q) l else if x = c ∧ q = false then none else scanQ c q l := rfl
theorem scanQ_append (c : UInt8) : ∀ (a b : List UInt8) (q : Bool), scanQ c q (a ++ b) = (scanQ c q a).bind fun q' => scanQ c q' b
  | [], b, q => rfl
  | x :: a, b, q => by
    show scanQ c q (x :: (a ++ b)) = _
    rw [scanQ_cons, scanQ_cons]
    split
    · exact scanQ_append c a b _
    · split
      · rfl
      · exact scanQ_append c a b _
theorem scanQ_plain {c : UInt8} : ∀ {l : List UInt8}, noB c l → noB 39 l → scanQ c false l = some false
  | [], _, _ => rfl
  | x :: l, h, k => by
    rw [scanQ_cons, if_neg (k x (by simp)), if_neg (fun e => h x (by simp) e.1)]
    exact scanQ_plain (fun y hy => h y (List.mem_cons_of_mem _ hy)) (fun y hy => k y (List.mem_cons_of_mem _ hy))
theorem scanQ_dbl (c : UInt8) : ∀ (l : List UInt8), scanQ c true (dbl l) = some true
  | [] => rfl
  | x :: l => by
    rw [dbl_cons]
    split
    · rw [scanQ_cons, if_pos rfl, scanQ_cons, if_pos rfl]; exact scanQ_dbl c l
    · rename_i h
      rw [scanQ_cons, if_neg h, if_neg (fun e => by cases e.2)]; exact scanQ_dbl c l

/-- A piece as a property. -/
def pieceP (x : List UInt8) : Option Prp := if (Lib.cut x [61]).2.2 = true ∧ readE (Lib.cut x [61]).2.1 = 0 then some ⟨bs (Lib.cut x [61]).1, readV (Lib.cut x [61]).2.1⟩ else none
def propsP : List (List UInt8) → Option (List Prp)
  | [] => some []
  | x :: xs => match pieceP x with
    | none => none
    | some p => match propsP xs with
      | none => none
      | some r => some (p :: r)
/-- A text as a record: the fault; the record. -/
def readRE (l : List UInt8) : Int := if l = [45] then 0 else match propsP (cutL 44 l) with | none => 2 | some r => recE r
def readRV (l : List UInt8) : List Prp := if l = [45] then [] else match propsP (cutL 44 l) with | none => [] | some r => if recE r = 0 then r else []
theorem name_no {s : ByteArray} (h : nameE s = 0) {c : UInt8} (hc : c.toNat < 97 ∨ 122 < c.toNat) : noB c s.data.toList := fun x hx e => by
  unfold nameE at h
  split at h
  · cases h
  · split at h
    · cases h
    · split at h
      · cases h
      · rename_i hn
        refine hn (List.any_eq_true.2 ⟨x, hx, ?_⟩)
        subst e
        unfold nameC
        rw [Bool.or_eq_true, decide_eq_true_eq, decide_eq_true_eq]
        rcases hc with hc | hc
        · left; omega
        · right; omega
theorem digits_no {c : UInt8} (hc : c.toNat < 48 ∨ 57 < c.toNat) (u : Nat) : noB c (Lib.decDigits u) := by
  induction u using Nat.strongRecOn with
  | ind u ih =>
    rw [Lib.decDigits]
    by_cases h : u < 10
    · rw [dif_pos h]; exact .cons (ofNat_ne h hc) .nil
    · rw [dif_neg h]; exact (ih (u / 10) (by omega)).append (.cons (ofNat_ne (by omega) hc) .nil)
theorem itoa_no {c : UInt8} (hc : c.toNat < 45 ∨ 57 < c.toNat) (n : Int) : noB c (Lib.itoa n) := by
  rcases itoa_cases n with ⟨u, _, e⟩ | ⟨u, _, _, e⟩
  · rw [e]; exact digits_no (by omega) u
  · rw [e]
    refine .cons (fun h => ?_) (digits_no (by omega) u)
    subst h
    have : (45 : UInt8).toNat = 45 := rfl
    omega
theorem scan_show {c : UInt8} (hc : c.toNat < 39 ∨ 39 < c.toNat ∧ c.toNat < 45 ∨ 122 < c.toNat) {v : Val} (h : valE v = 0) : scanQ c false (showL v) = some false := by
  have h39 : (39 : UInt8).toNat = 39 := rfl
  unfold showL
  rcases val_parts h with ⟨h1, _⟩ | ⟨h1, _⟩ | ⟨h1, _⟩
  · rw [if_pos h1]
    exact scanQ_plain (itoa_no (by omega) _) (itoa_no (by omega) _)
  · rw [if_neg (by omega), if_pos h1]
    have hl : ∀ l : List UInt8, l.all (fun x => decide (97 ≤ x.toNat ∧ x.toNat ≤ 122)) = true → scanQ c false l = some false := fun l hl => by
      refine scanQ_plain (fun x hx e => ?_) (fun x hx e => ?_)
      · have := of_decide_eq_true (List.all_eq_true.1 hl x hx)
        subst e; omega
      · have := of_decide_eq_true (List.all_eq_true.1 hl x hx)
        subst e; omega
    split
    · exact hl _ (by decide)
    · exact hl _ (by decide)
  · rw [if_neg (by omega), if_neg (by omega)]
    rw [scanQ_cons, if_pos rfl, scanQ_append]
    show ((scanQ c true (dbl v.s.data.toList)).bind fun q' => scanQ c q' [39]) = _
    rw [scanQ_dbl]; rfl
end Go.Proofs.YtakidgndipnciaaDoor
