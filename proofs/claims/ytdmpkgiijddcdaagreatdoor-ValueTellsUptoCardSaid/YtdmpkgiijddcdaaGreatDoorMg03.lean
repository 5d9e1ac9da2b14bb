/- Parts: VtP. -/
import Derived.Test.YtdmpkgiijddcdaaGreatDoorMg01
import Derived.Lib.Replace
import Derived.Lib.CountLaws
/- Plain: quotes that are doubled, and halved again. No condition. -/
namespace Go.Proofs.YtdmpkgiijddcdaaGreatDoor
open Go

/-- Each quote twice. -/
def dbl : List UInt8 → List UInt8
  | [] => []
  | c :: l => if c = 39 then 39 :: 39 :: dbl l else c :: dbl l
theorem dbl_cons (c : UInt8) (l : List UInt8) : dbl (c :: l) = if c = 39 then 39 :: 39 :: dbl l else c :: dbl l := rfl
theorem dbl_append (a b : List UInt8) : dbl (a ++ b) = dbl a ++ dbl b := by
  induction a with
  | nil => rfl
  | cons c a ih =>
    show dbl (c :: (a ++ b)) = dbl (c :: a) ++ dbl b
    rw [dbl_cons, dbl_cons, ih]
    split <;> rfl
theorem dbl_none {a : List UInt8} (h : ∀ c ∈ a, c ≠ 39) : dbl a = a := by
  induction a with
  | nil => rfl
  | cons c a ih =>
    rw [dbl_cons, if_neg (h c (by simp)), ih fun x hx => h x (by simp [hx])]
theorem dbl_quote (l : List UInt8) : dbl (39 :: l) = 39 :: 39 :: dbl l := by
  rw [dbl_cons, if_pos rfl]
theorem dbl_len (l : List UInt8) : l.length ≤ (dbl l).length := by
  induction l with
  | nil => exact Nat.le_refl _
  | cons c l ih => rw [dbl_cons]; split <;> simp <;> omega
/-- A list has a first quote, or none. -/
theorem first_quote : ∀ l : List UInt8, (∀ c ∈ l, c ≠ 39) ∨ ∃ a r, l = a ++ 39 :: r ∧ ∀ c ∈ a, c ≠ 39
  | [] => .inl fun _ h => by cases h
  | c :: l => by
    by_cases hc : c = 39
    · exact .inr ⟨[], l, by rw [hc]; rfl, fun _ h => by cases h⟩
    · rcases first_quote l with h | ⟨a, r, rfl, h⟩
      · exact .inl fun x hx => by
          rcases List.mem_cons.1 hx with rfl | hx
          · exact hc
          · exact h x hx
      · exact .inr ⟨c :: a, r, rfl, fun x hx => by
          rcases List.mem_cons.1 hx with rfl | hx
          · exact hc
          · exact h x hx⟩
theorem occ_head_ne {s sub t : List UInt8} {i : Nat} (hs : sub = 39 :: t) (h : s[i]? ≠ some 39) : Lib.occAt s sub i = false := by
  cases hq : Lib.occAt s sub i with
  | false => rfl
  | true => exact absurd (Lib.occAt_head hs hq) h
theorem no_occ {a s t : List UInt8} (h : ∀ c ∈ a, c ≠ 39) : Lib.NoOcc (a ++ s) (39 :: t) a.length := fun j hj => by
  refine occ_head_ne rfl ?_
  rw [List.getElem?_append_left hj]
  intro e
  exact h _ (List.mem_of_getElem? e) rfl
theorem index_none_quote {a t : List UInt8} (h : ∀ c ∈ a, c ≠ 39) : Lib.index a (39 :: t) = -1 := by
  refine Lib.index_none fun j hj => occ_head_ne rfl ?_
  intro e
  exact h _ (List.mem_of_getElem? e) rfl
theorem index_quote1 {a r : List UInt8} (h : ∀ c ∈ a, c ≠ 39) : Lib.index (a ++ 39 :: r) [39] = a.length :=
  Lib.index_hit (no_occ h) (by simp) (by simp [Lib.occAt])
theorem index_quote2 {a r : List UInt8} (h : ∀ c ∈ a, c ≠ 39) : Lib.index (a ++ 39 :: 39 :: r) [39, 39] = a.length :=
  Lib.index_hit (no_occ h) (by simp) (by simp [Lib.occAt])
theorem drop_behind (a r : List UInt8) (c : UInt8) : (a ++ c :: r).drop (a.length + 1) = r := by simp
theorem drop_behind2 (a r : List UInt8) (c d : UInt8) : (a ++ c :: d :: r).drop (a.length + 2) = r := by simp
theorem doubled_k : ∀ (n : Nat) (s : List UInt8), s.length ≤ n → Lib.replaceK [39] [39, 39] (Lib.count s [39]) s = dbl s
  | n, s, hn => by
    rcases first_quote s with h | ⟨a, r, rfl, h⟩
    · rw [Lib.count_miss (index_none_quote h), dbl_none h]; rfl
    · cases n with
      | zero => simp at hn
      | succ n =>
        have hi := index_quote1 (r := r) h
        rw [Lib.count_hit (by simp) hi, Nat.add_comm, Lib.replaceK_hit _ _ _ _ _ hi]
        show (a ++ 39 :: r).take a.length ++ [39, 39] ++ Lib.replaceK [39] [39, 39] (Lib.count ((a ++ 39 :: r).drop (a.length + 1)) [39]) ((a ++ 39 :: r).drop (a.length + 1)) = _
        rw [drop_behind, doubled_k n r (by simp at hn; omega), List.take_left, dbl_append, dbl_none h, dbl_quote]
        simp
theorem replaceAll_eq {s old new : List UInt8} (hne : (old == new) = false) : Lib.replaceAll s old new = Lib.replaceK old new (Lib.count s old) s := by
  unfold Lib.replaceAll Lib.replace Lib.replaceNum
  rw [if_neg (by rw [hne]; simp), if_pos (.inl (by omega))]
/-- What the program doubles. -/
theorem doubled (s : List UInt8) : Lib.replaceAll s [39] [39, 39] = dbl s := by
  rw [replaceAll_eq (by decide), doubled_k s.length s (Nat.le_refl _)]
theorem halved_k : ∀ (n : Nat) (u : List UInt8), u.length ≤ n → Lib.replaceK [39, 39] [39] (Lib.count (dbl u) [39, 39]) (dbl u) = u
  | n, u, hn => by
    rcases first_quote u with h | ⟨a, r, rfl, h⟩
    · rw [dbl_none h, Lib.count_miss (index_none_quote h)]; rfl
    · cases n with
      | zero => simp at hn
      | succ n =>
        rw [dbl_append, dbl_none h, dbl_quote]
        have hi := index_quote2 (r := dbl r) h
        rw [Lib.count_hit (by simp) hi, Nat.add_comm, Lib.replaceK_hit _ _ _ _ _ hi]
        show (a ++ 39 :: 39 :: dbl r).take a.length ++ [39] ++ Lib.replaceK [39, 39] [39] (Lib.count ((a ++ 39 :: 39 :: dbl r).drop (a.length + 2)) [39, 39]) ((a ++ 39 :: 39 :: dbl r).drop (a.length + 2)) = _
        rw [drop_behind2, halved_k n r (by simp at hn; omega), List.take_left]
        simp
/-- What the program halves. -/
theorem halved (u : List UInt8) : Lib.replaceAll (dbl u) [39, 39] [39] = u := by
  rw [replaceAll_eq (by decide), halved_k u.length u (Nat.le_refl _)]
end Go.Proofs.YtdmpkgiijddcdaaGreatDoor
