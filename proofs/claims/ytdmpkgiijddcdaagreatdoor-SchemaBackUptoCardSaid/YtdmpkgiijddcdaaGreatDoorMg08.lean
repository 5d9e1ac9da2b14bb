/- Parts: Cmp, RecS, GrC, TieP, VtT, VtC, VtR, VtG, TxM. -/
import Derived.Test.YtdmpkgiijddcdaaGreatDoorMg07
import Derived.Test.YtdmpkgiijddcdaaGreatDoorMg06
import Derived.Test.YtdmpkgiijddcdaaGreatDoorMg05
import Derived.Lib.Join
import Derived.Lib.Split
import Derived.Lib.CutLaws
import Derived.Test.YtdmpkgiijddcdaaGreatDoorMg04
import Derived.Shelf.Strings.Cut
import Derived.Shelf.Strings.Split
import Derived.Shelf.Small.Wraps
import Derived.Shelf.Small.Strs
/- Plain: the order of texts. -/
namespace Go.Proofs.YtdmpkgiijddcdaaGreatDoor
open Go.RowKit

theorem cb_zero : ∀ {a b : List UInt8}, Lib.compareBytes a b = 0 ↔ a = b
  | [], [] => by simp [Lib.compareBytes]
  | [], _ :: _ => by simp [Lib.compareBytes]
  | _ :: _, [] => by simp [Lib.compareBytes]
  | x :: a, y :: b => by
    have ih := @cb_zero a b
    rw [Lib.compareBytes]
    by_cases h1 : x < y
    · simp [h1]; intro e; subst e; exact absurd h1 (by simp)
    · by_cases h2 : y < x
      · simp [h1, h2]; intro e; subst e; exact absurd h2 (by simp)
      · have e : x = y := by
          apply UInt8.toNat_inj.1
          simp [UInt8.lt_iff_toNat_lt] at h1 h2
          omega
        subst e
        simp [h1, ih]
theorem cb_anti : ∀ (a b : List UInt8), Lib.compareBytes b a = - Lib.compareBytes a b
  | [], [] => by simp [Lib.compareBytes]
  | [], _ :: _ => by simp [Lib.compareBytes]
  | _ :: _, [] => by simp [Lib.compareBytes]
  | x :: a, y :: b => by
    have ih := cb_anti a b
    rw [Lib.compareBytes, Lib.compareBytes]
    by_cases h1 : x < y
    · have h2 : ¬ y < x := by simp [UInt8.lt_iff_toNat_lt] at h1 ⊢; omega
      simp [h1, h2]
    · by_cases h2 : y < x
      · simp [h1, h2]
      · simp [h1, h2, ih]
theorem cb_trans : ∀ {a b c : List UInt8}, Lib.compareBytes a b < 0 → Lib.compareBytes b c < 0 → Lib.compareBytes a c < 0
  | [], [], _, h, _ => by simp [Lib.compareBytes] at h
  | [], _ :: _, [], _, h => by simp [Lib.compareBytes] at h
  | [], _ :: _, _ :: _, _, _ => by simp [Lib.compareBytes]
  | _ :: _, [], _, h, _ => by simp [Lib.compareBytes] at h
  | _ :: _, _ :: _, [], _, h => by simp [Lib.compareBytes] at h
  | x :: a, y :: b, z :: c, h, k => by
    have ih := @cb_trans a b c
    rw [Lib.compareBytes] at h k ⊢
    simp only [UInt8.lt_iff_toNat_lt] at h k ⊢
    by_cases h1 : x.toNat < y.toNat
    · by_cases k1 : y.toNat < z.toNat
      · have : x.toNat < z.toNat := by omega
        simp [this]
      · by_cases k2 : z.toNat < y.toNat
        · simp [k1, k2] at k
        · have : x.toNat < z.toNat := by omega
          simp [this]
    · by_cases h2 : y.toNat < x.toNat
      · simp [h1, h2] at h
      · simp only [h1, h2, if_false] at h
        by_cases k1 : y.toNat < z.toNat
        · have : x.toNat < z.toNat := by omega
          simp [this]
        · by_cases k2 : z.toNat < y.toNat
          · simp [k1, k2] at k
          · simp only [k1, k2, if_false] at k
            have e1 : ¬ x.toNat < z.toNat := by omega
            have e2 : ¬ z.toNat < x.toNat := by omega
            simp only [e1, e2, if_false]
            exact ih h k
theorem cmpS_zero {a b : ByteArray} : cmpS a b = 0 ↔ a = b := by
  unfold cmpS
  rw [cb_zero]
  constructor
  · intro h
    have := Array.toList_inj.1 h
    cases a; cases b; simp at this; rw [this]
  · intro h; rw [h]
theorem cmpS_anti (a b : ByteArray) : cmpS b a = - cmpS a b := cb_anti _ _
theorem cmpS_trans {a b c : ByteArray} (h : cmpS a b < 0) (k : cmpS b c < 0) : cmpS a c < 0 := cb_trans h k
open Go Go.RowKit


/-! ### The order of names -/
theorem less_cmp : ∀ (a b : List UInt8), Op.bytesLess a b = decide (Lib.compareBytes a b < 0)
  | [], [] => by simp [Op.bytesLess, Lib.compareBytes]
  | [], _ :: _ => by simp [Op.bytesLess, Lib.compareBytes]
  | _ :: _, [] => by simp [Op.bytesLess, Lib.compareBytes]
  | x :: a, y :: b => by
    rw [Op.bytesLess, Lib.compareBytes, less_cmp a b]
    by_cases h1 : x < y
    · simp [h1]
    · by_cases h2 : y < x
      · have : x ≠ y := fun e => by subst e; exact absurd h2 h1
        simp [h1, h2, this]
      · have e : x = y := by
          apply UInt8.toNat_inj.1
          simp [UInt8.lt_iff_toNat_lt] at h1 h2
          omega
        subst e
        simp [h1]
theorem ltS_cmp (a b : ByteArray) : ltS a b = decide (cmpS a b < 0) := by
  unfold ltS cmpS
  rw [less_cmp, ByteArray.toList_eq, ByteArray.toList_eq]
/-! ### record.Get -/
theorem res3 {w w1 : World} {T : TypeId} {c0 c1 c2 : Value} (a b c : Value) (hB : Below w.heap.size w w1) (h : w1.heap[w.heap.size]? = some (.cells #[c0, c1, c2] T (0, 0))) :
    Below w.heap.size w (((w1.setCell ⟨w.heap.size, 0, none⟩ a).setCell ⟨w.heap.size, 1, none⟩ b).setCell ⟨w.heap.size, 2, none⟩ c) ∧
    (((w1.setCell ⟨w.heap.size, 0, none⟩ a).setCell ⟨w.heap.size, 1, none⟩ b).setCell ⟨w.heap.size, 2, none⟩ c).cell? ⟨w.heap.size, 0, none⟩ = some a ∧
    (((w1.setCell ⟨w.heap.size, 0, none⟩ a).setCell ⟨w.heap.size, 1, none⟩ b).setCell ⟨w.heap.size, 2, none⟩ c).cell? ⟨w.heap.size, 1, none⟩ = some b ∧
    (((w1.setCell ⟨w.heap.size, 0, none⟩ a).setCell ⟨w.heap.size, 1, none⟩ b).setCell ⟨w.heap.size, 2, none⟩ c).cell? ⟨w.heap.size, 2, none⟩ = some c := by
  have h3 := setCell_block (setCell_block (setCell_block h 0 a) 1 b) 2 c
  exact ⟨((hB.setCell (p := ⟨_, 0, none⟩) (Nat.le_refl _) _).setCell (p := ⟨_, 1, none⟩) (Nat.le_refl _) _).setCell (p := ⟨_, 2, none⟩) (Nat.le_refl _) _, block_cell h3 0, block_cell h3 1, block_cell h3 2⟩

/-! ### What a right graph gives -/

open Go

/-- No end of a line. -/
def flatB (l : List UInt8) : Prop := ∀ c ∈ l, c ≠ 10
theorem flatB.append {a b : List UInt8} (h : flatB a) (k : flatB b) : flatB (a ++ b) := fun c hc => by
  rcases List.mem_append.1 hc with h1 | h1
  · exact h c h1
  · exact k c h1
theorem flatB.cons {c : UInt8} {l : List UInt8} (hc : c ≠ 10) (h : flatB l) : flatB (c :: l) := fun x hx => by
  rcases List.mem_cons.1 hx with rfl | hx
  · exact hc
  · exact h x hx
theorem flatB.nil : flatB [] := fun _ h => by cases h
theorem flatB.count {l : List UInt8} (h : flatB l) : l.count 10 = 0 := List.count_eq_zero.2 fun hm => h 10 hm rfl
theorem flat_digits (u : Nat) : flatB (Lib.decDigits u) := by
  induction u using Nat.strongRecOn with
  | ind u ih =>
    rw [Lib.decDigits]
    by_cases h : u < 10
    · rw [dif_pos h]; exact .cons (ofNat_ne h (.inl (by decide))) .nil
    · rw [dif_neg h]; exact (ih (u / 10) (by omega)).append (.cons (ofNat_ne (by omega) (.inl (by decide))) .nil)
theorem flat_itoa (n : Int) : flatB (Lib.itoa n) := by
  rcases itoa_cases n with ⟨u, _, e⟩ | ⟨u, _, _, e⟩
  · rw [e]; exact flat_digits u
  · rw [e]; exact .cons (by decide) (flat_digits u)
theorem flat_name {s : ByteArray} (h : nameE s = 0) : flatB s.data.toList := fun c hc e => by
  unfold nameE at h
  split at h
  · cases h
  · split at h
    · cases h
    · split at h
      · cases h
      · rename_i hn
        exact hn (List.any_eq_true.2 ⟨c, hc, by subst e; decide⟩)
theorem flat_join : ∀ (xs : List (List UInt8)) (sep : List UInt8), (∀ x ∈ xs, flatB x) → flatB sep → flatB (Lib.join xs sep)
  | [], sep, _, _ => by rw [Lib.join_nil]; exact .nil
  | x :: r, sep, h, hs => by
    rw [Lib.join_cons]
    refine (h x (by simp)).append fun c hc => ?_
    unfold Lib.joinTail at hc
    obtain ⟨l, hl, hcl⟩ := List.mem_flatten.1 hc
    obtain ⟨y, hy, rfl⟩ := List.mem_map.1 hl
    exact (hs.append (h y (by simp [hy]))) c hcl
theorem name_len {s : ByteArray} (h : nameE s = 0) : s.data.toList.length ≤ 8 := by
  have h5 : s.data.toList.length = s.size := by rw [Array.length_toList]; rfl
  unfold nameE at h
  split at h
  · cases h
  · split at h
    · cases h
    · omega
theorem tail_len : ∀ (r : List (List UInt8)) (sep : List UInt8) (m : Nat), (∀ x ∈ r, x.length ≤ m) → (Lib.joinTail sep r).length ≤ r.length * (m + sep.length)
  | [], _, _, _ => by simp [Lib.joinTail]
  | y :: r, sep, m, h => by
    have hy := h y (by simp)
    have ih := tail_len r sep m fun z hz => h z (List.mem_cons_of_mem _ hz)
    unfold Lib.joinTail at *
    rw [List.map_cons, List.flatten_cons, List.length_append, List.length_append, List.length_cons, Nat.succ_mul]
    omega
theorem join_len : ∀ (xs : List (List UInt8)) (sep : List UInt8) (m : Nat), (∀ x ∈ xs, x.length ≤ m) → (Lib.join xs sep).length ≤ xs.length * (m + sep.length)
  | [], sep, m, _ => by rw [Lib.join_nil]; simp
  | x :: r, sep, m, h => by
    rw [Lib.join_cons, List.length_append]
    have h1 := h x (by simp)
    have h2 := tail_len r sep m fun y hy => h y (List.mem_cons_of_mem _ hy)
    rw [List.length_cons, Nat.succ_mul]
    omega
theorem flatMap_len {D : Type} {f : D → List UInt8} {m : Nat} : ∀ {l : List D}, (∀ x ∈ l, (f x).length ≤ m) → (l.flatMap f).length ≤ l.length * m
  | [], _ => by simp
  | x :: l, h => by
    have h1 := h x (by simp)
    have h2 := flatMap_len (l := l) fun y hy => h y (List.mem_cons_of_mem _ hy)
    rw [List.flatMap_cons, List.length_append, List.length_cons, Nat.succ_mul]
    omega

/-- A sign is not in a text. -/
def noB (c : UInt8) (l : List UInt8) : Prop := ∀ x ∈ l, x ≠ c
theorem noB.nil {c : UInt8} : noB c [] := fun _ h => by cases h
theorem noB.cons {c x : UInt8} {l : List UInt8} (h : x ≠ c) (k : noB c l) : noB c (x :: l) := fun y hy => by
  rcases List.mem_cons.1 hy with rfl | hy
  · exact h
  · exact k y hy
theorem noB.append {c : UInt8} {a b : List UInt8} (h : noB c a) (k : noB c b) : noB c (a ++ b) := fun y hy => by
  rcases List.mem_append.1 hy with hy | hy
  · exact h y hy
  · exact k y hy
theorem no_lit {c : UInt8} {l : List UInt8} (h : l.all (fun x => decide (x ≠ c)) = true) : noB c l := fun x hx => of_decide_eq_true (List.all_eq_true.1 h x hx)
/-- A text has a first such sign, or none. -/
theorem first_sign (c : UInt8) : ∀ l : List UInt8, noB c l ∨ ∃ a r, l = a ++ c :: r ∧ noB c a
  | [] => .inl .nil
  | x :: l => by
    by_cases hx : x = c
    · exact .inr ⟨[], l, by rw [hx]; rfl, .nil⟩
    · rcases first_sign c l with h | ⟨a, r, rfl, h⟩
      · exact .inl (.cons hx h)
      · exact .inr ⟨x :: a, r, rfl, .cons hx h⟩
theorem occ_ne {s : List UInt8} {c : UInt8} {i : Nat} (h : s[i]? ≠ some c) : Lib.occAt s [c] i = false := by
  cases hq : Lib.occAt s [c] i with
  | false => rfl
  | true => exact absurd (Lib.occAt_head rfl hq) h
theorem index_sign {c : UInt8} {a r : List UInt8} (h : noB c a) : Lib.index (a ++ c :: r) [c] = a.length :=
  Lib.index_hit (fun j hj => occ_ne (by
    rw [List.getElem?_append_left hj]
    intro e
    exact h _ (List.mem_of_getElem? e) rfl)) (by simp) (by simp [Lib.occAt])
theorem index_no {c : UInt8} {a : List UInt8} (h : noB c a) : Lib.index a [c] = -1 :=
  Lib.index_none fun _ _ => occ_ne fun e => h _ (List.mem_of_getElem? e) rfl
/-- Cut at the first. -/
theorem cut_sign {c : UInt8} {a r : List UInt8} (h : noB c a) : Lib.cut (a ++ c :: r) [c] = (a, r, true) := by
  unfold Lib.cut
  rw [index_sign h, if_pos (by omega)]
  simp
theorem cut_no {c : UInt8} {a : List UInt8} (h : noB c a) : Lib.cut a [c] = (a, [], false) := by
  unfold Lib.cut
  rw [index_no h, if_neg (by omega)]
theorem cut_cases (c : UInt8) (l : List UInt8) : (Lib.cut l [c] = (l, [], false) ∧ noB c l) ∨ ∃ a r, l = a ++ c :: r ∧ noB c a ∧ Lib.cut l [c] = (a, r, true) := by
  rcases first_sign c l with h | ⟨a, r, rfl, h⟩
  · exact .inl ⟨cut_no h, h⟩
  · exact .inr ⟨a, r, rfl, h, cut_sign h⟩
/-- Cut at each. -/
theorem split_no {c : UInt8} {a : List UInt8} (h : noB c a) : Lib.split a [c] = [a] := by
  unfold Lib.split
  rw [Lib.count_miss (index_no h)]; rfl
theorem split_sign {c : UInt8} {a r : List UInt8} (h : noB c a) : Lib.split (a ++ c :: r) [c] = a :: Lib.split r [c] := by
  have hi := index_sign (r := r) h
  unfold Lib.split
  rw [Lib.count_hit (by simp) hi, Nat.add_comm]
  show (if Lib.index (a ++ c :: r) [c] == -1 then [a ++ c :: r] else (a ++ c :: r).take ((Lib.index (a ++ c :: r) [c]).toNat + 0) :: Lib.splitK [c] 0 (Lib.count ((a ++ c :: r).drop (a.length + 1)) [c]) ((a ++ c :: r).drop ((Lib.index (a ++ c :: r) [c]).toNat + 1))) = _
  rw [hi, if_neg (by simp), drop_behind]
  simp
/-- What is cut is whole again when it is put together. -/
theorem join_split (c : UInt8) : ∀ (n : Nat) (l : List UInt8), l.length ≤ n → Lib.join (Lib.split l [c]) [c] = l ∧ ∀ x ∈ Lib.split l [c], noB c x
  | n, l, hn => by
    rcases first_sign c l with h | ⟨a, r, rfl, h⟩
    · rw [split_no h]
      exact ⟨by simp [Lib.join], fun x hx => by rcases List.mem_singleton.1 hx with rfl; exact h⟩
    · cases n with
      | zero => simp at hn
      | succ n =>
        obtain ⟨i1, i2⟩ := join_split c n r (by simp at hn; omega)
        rw [split_sign h]
        refine ⟨?_, fun x hx => ?_⟩
        · cases hs : Lib.split r [c] with
          | nil => rw [hs] at i1; rcases first_sign c r with k | ⟨a', r', rfl, k⟩
                   · rw [split_no k] at hs; cases hs
                   · rw [split_sign k] at hs; cases hs
          | cons y m =>
            rw [hs] at i1
            show [c].intercalate (a :: y :: m) = _
            have e : [c].intercalate (a :: y :: m) = a ++ [c] ++ [c].intercalate (y :: m) := by simp [List.intercalate, List.intersperse]
            rw [e]
            have i1 : [c].intercalate (y :: m) = r := i1
            rw [i1]; simp
        · rcases List.mem_cons.1 hx with rfl | hx
          · exact h
          · exact i2 x hx
theorem join_two (c : UInt8) (a y : List UInt8) (m : List (List UInt8)) : Lib.join (a :: y :: m) [c] = a ++ c :: Lib.join (y :: m) [c] := by
  show [c].intercalate (a :: y :: m) = _
  have e : [c].intercalate (a :: y :: m) = a ++ [c] ++ [c].intercalate (y :: m) := by simp [List.intercalate, List.intersperse]
  rw [e]; simp [Lib.join]
theorem join_one (c : UInt8) (a : List UInt8) : Lib.join [a] [c] = a := by simp [Lib.join]
/-- What is put together is cut as it was. -/
theorem split_join (c : UInt8) : ∀ (xs : List (List UInt8)), xs ≠ [] → (∀ x ∈ xs, noB c x) → Lib.split (Lib.join xs [c]) [c] = xs
  | [], h, _ => absurd rfl h
  | [a], _, h => by rw [join_one, split_no (h a (by simp))]
  | a :: y :: m, _, h => by
    rw [join_two, split_sign (h a (by simp)), split_join c (y :: m) (by simp) fun x hx => h x (List.mem_cons_of_mem _ hx)]
theorem split_ne (c : UInt8) (l : List UInt8) : Lib.split l [c] ≠ [] := by
  rcases first_sign c l with h | ⟨a, r, rfl, h⟩
  · rw [split_no h]; simp
  · rw [split_sign h]; simp
theorem split_whole (c : UInt8) (l : List UInt8) : Lib.join (Lib.split l [c]) [c] = l := (join_split c l.length l (Nat.le_refl _)).1
/-- Cut at each that is in no quotes. -/
def cutF (c : UInt8) : Bool → List UInt8 → List UInt8 → List (List UInt8)
  | _, cur, [] => [cur]
  | q, cur, x :: l => if x = 39 then cutF c (!q) (cur ++ [x]) l else if x = c ∧ q = false then cur :: cutF c false [] l else cutF c q (cur ++ [x]) l
def cutL (c : UInt8) (l : List UInt8) : List (List UInt8) := cutF c false [] l

/-- A piece as a property. -/
def pieceP (x : List UInt8) : Option Prp := if (Lib.cut x [61]).2.2 = true ∧ readE (Lib.cut x [61]).2.1 = 0 then some ⟨bs (Lib.cut x [61]).1, readV (Lib.cut x [61]).2.1⟩ else none
def propsP : List (List UInt8) → Option (List Prp)
  | [] => some []
  | x :: xs => match pieceP x with
    | none => none
    | some p => match propsP xs with
      | none => none
      | some r => some (p :: r)
/-- A text as a record: the fault; the record. -/
def readRE (l : List UInt8) : Int := if l = [45] then 0 else match propsP (cutL 44 l) with | none => 2 | some r => recE r
def readRV (l : List UInt8) : List Prp := if l = [45] then [] else match propsP (cutL 44 l) with | none => [] | some r => if recE r = 0 then r else []
theorem name_no {s : ByteArray} (h : nameE s = 0) {c : UInt8} (hc : c.toNat < 97 ∨ 122 < c.toNat) : noB c s.data.toList := fun x hx e => by
  unfold nameE at h
  split at h
  · cases h
  · split at h
    · cases h
    · split at h
      · cases h
      · rename_i hn
        refine hn (List.any_eq_true.2 ⟨x, hx, ?_⟩)
        subst e
        unfold nameC
        rw [Bool.or_eq_true, decide_eq_true_eq, decide_eq_true_eq]
        rcases hc with hc | hc
        · left; omega
        · right; omega
theorem digits_no {c : UInt8} (hc : c.toNat < 48 ∨ 57 < c.toNat) (u : Nat) : noB c (Lib.decDigits u) := by
  induction u using Nat.strongRecOn with
  | ind u ih =>
    rw [Lib.decDigits]
    by_cases h : u < 10
    · rw [dif_pos h]; exact .cons (ofNat_ne h hc) .nil
    · rw [dif_neg h]; exact (ih (u / 10) (by omega)).append (.cons (ofNat_ne (by omega) hc) .nil)
theorem itoa_no {c : UInt8} (hc : c.toNat < 45 ∨ 57 < c.toNat) (n : Int) : noB c (Lib.itoa n) := by
  rcases itoa_cases n with ⟨u, _, e⟩ | ⟨u, _, _, e⟩
  · rw [e]; exact digits_no (by omega) u
  · rw [e]
    refine .cons (fun h => ?_) (digits_no (by omega) u)
    subst h
    have : (45 : UInt8).toNat = 45 := rfl
    omega

/-- A text's lines, each with its end. -/
def linesF (cur : List UInt8) : List UInt8 → List (List UInt8)
  | [] => if cur = [] then [] else [cur]
  | c :: l => if c = 10 then (cur ++ [10]) :: linesF [] l else linesF (cur ++ [c]) l
theorem linesF_cons (cur : List UInt8) (c : UInt8) (l : List UInt8) : linesF cur (c :: l) = if c = 10 then (cur ++ [10]) :: linesF [] l else linesF (cur ++ [c]) l := rfl
def linesL (l : List UInt8) : List (List UInt8) := linesF [] l
theorem linesF_sign : ∀ (a r cur : List UInt8), noB 10 a → linesF cur (a ++ 10 :: r) = (cur ++ a ++ [10]) :: linesL r
  | [], r, cur, _ => by
    show linesF cur (10 :: r) = _
    rw [linesF_cons, if_pos rfl, List.append_nil]; rfl
  | x :: a, r, cur, h => by
    show linesF cur (x :: (a ++ 10 :: r)) = _
    rw [linesF_cons, if_neg (h x (by simp)), linesF_sign a r _ fun y hy => h y (List.mem_cons_of_mem _ hy)]
    simp
theorem linesF_no : ∀ (a cur : List UInt8), noB 10 a → linesF cur a = if cur ++ a = [] then [] else [cur ++ a]
  | [], cur, _ => by rw [List.append_nil]; rfl
  | x :: a, cur, h => by
    rw [linesF_cons, if_neg (h x (by simp)), linesF_no a _ fun y hy => h y (List.mem_cons_of_mem _ hy)]
    simp
theorem lines_sign {a r : List UInt8} (h : noB 10 a) : linesL (a ++ 10 :: r) = (a ++ [10]) :: linesL r := by
  have := linesF_sign a r [] h
  rw [List.nil_append] at this
  exact this
theorem lines_no {a : List UInt8} (h : noB 10 a) (h0 : a ≠ []) : linesL a = [a] := by
  unfold linesL
  rw [linesF_no a [] h, if_neg (by simpa using h0)]; rfl
theorem lines_nil : linesL [] = [] := rfl
theorem lines_whole : ∀ (n : Nat) (l : List UInt8), l.length ≤ n → (linesL l).flatten = l
  | n, l, hn => by
    by_cases h0 : l = []
    · subst h0; rfl
    rcases first_sign 10 l with h | ⟨a, r, rfl, h⟩
    · rw [lines_no h h0]; simp
    · cases n with
      | zero => simp at hn
      | succ n =>
        rw [lines_sign h, List.flatten_cons, lines_whole n r (by simp at hn; omega)]; simp
theorem suffix_line (a : List UInt8) : Lib.hasSuffix (a ++ [10]) [10] = true ∧ Lib.trimSuffix (a ++ [10]) [10] = a := by
  have h : Lib.hasSuffix (a ++ [10]) [10] = true := by
    unfold Lib.hasSuffix
    rw [List.isSuffixOf_iff_suffix]
    exact ⟨a, rfl⟩
  refine ⟨h, ?_⟩
  unfold Lib.trimSuffix
  rw [h, if_pos rfl]
  simp
theorem suffix_cases (x : List UInt8) : Lib.hasSuffix x [10] = false ∨ ∃ a, x = a ++ [10] := by
  cases h : Lib.hasSuffix x [10] with
  | false => exact .inl rfl
  | true =>
    unfold Lib.hasSuffix at h
    rw [List.isSuffixOf_iff_suffix] at h
    obtain ⟨a, e⟩ := h
    exact .inr ⟨a, e.symm⟩
def nodeW : List UInt8 := [110, 111, 100, 101]
def tieW : List UInt8 := [116, 105, 101]
/-- A node, a tie of what stands behind its word. -/
def readNodL (l : List UInt8) : Option Nod := match Lib.splitN l [32] 3 with
  | [a, b, c] => if b = [] then none else match numL a 4 with
    | none => none
    | some n => if readRE c = 0 then some ⟨n, bs b, readRV c⟩ else none
  | _ => none
def readTieL (l : List UInt8) : Option Tie := match Lib.split l [32] with
  | [a, b, c] => if a = [] then none else match numL b 4, numL c 4 with
    | some x, some y => some ⟨bs a, x, y⟩
    | _, _ => none
  | _ => none
/-- A line more. -/
def lineT (g : Grf) (x : List UInt8) : Option Grf :=
  if Lib.hasSuffix x [10] = true then
    (if (Lib.cut (Lib.trimSuffix x [10]) [32]).1 = nodeW ∧ g.ties.length = 0 then (readNodL (Lib.cut (Lib.trimSuffix x [10]) [32]).2.1).map fun n => ⟨g.nodes ++ [n], g.ties⟩
     else if (Lib.cut (Lib.trimSuffix x [10]) [32]).1 = tieW then (readTieL (Lib.cut (Lib.trimSuffix x [10]) [32]).2.1).map fun t => ⟨g.nodes, g.ties ++ [t]⟩
     else none)
  else none
/-- Lines, one by one: the graph, or the number of the line that is wrong. -/
def runT (g : Grf) (n : Nat) : List (List UInt8) → Except Nat Grf
  | [] => .ok g
  | x :: xs => match lineT g x with
    | none => .error n
    | some g' => runT g' (n + 1) xs
theorem name_ne {s : ByteArray} (h : nameE s = 0) : s.data.toList ≠ [] := fun e => by
  unfold nameE at h
  split at h
  · cases h
  · rename_i hh
    exact hh ((empty_iff s).2 (by rw [← bs_of s, e]; rfl))
open Go Go.Shelf Go.RowKit

-- written by shelflay.py for the seat YtdmpkgiijddcdaaGreatDoor
def cutLay_ren : Go.Shelf.Ren := ⟨fun | 145 => 83 | 220 => 129 | 219 => 166 | 217 => 142 | 225 => 192 | 224 => 193 | 267 => 194 | 266 => 174 | 314 => 211 | n => n, fun | 9 => 9 | 4 => 4 | 59 => 148 | 3 => 3 | 5 => 5 | 46 => 228 | 146 => 289 | 51 => 278 | 20 => 20 | n => n, fun | 1 => 4 | n => n⟩
theorem cutLay : Go.Proofs.Lays.n145 Tryz.prog cutLay_ren := {
  mixed := by kernel_rfl,
  f145 := Tryz.func83.trans (congrArg some (by kernel_rfl)),
  f217 := Tryz.func142.trans (congrArg some (by kernel_rfl)),
  f219 := Tryz.func166.trans (congrArg some (by kernel_rfl)),
  f220 := Tryz.func129.trans (congrArg some (by kernel_rfl)),
  f224 := Tryz.func193.trans (congrArg some (by kernel_rfl)),
  f225 := Tryz.func192.trans (congrArg some (by kernel_rfl)),
  f266 := Tryz.func174.trans (congrArg some (by kernel_rfl)),
  f267 := Tryz.func194.trans (congrArg some (by kernel_rfl)),
  f314 := Tryz.func211.trans (congrArg some (by kernel_rfl)),
  t3 := Tryz.underlying3,
  a3 := Tryz.isAgg3,
  z3 := Tryz.sizeOf3,
  v3 := Tryz.zeroValue3,
  t4 := Tryz.underlying4,
  a4 := Tryz.isAgg4,
  z4 := Tryz.sizeOf4,
  v4 := Tryz.zeroValue4,
  t5 := Tryz.underlying5,
  a5 := Tryz.isAgg5,
  z5 := Tryz.sizeOf5,
  v5 := Tryz.zeroValue5,
  t9 := Tryz.underlying9,
  a9 := Tryz.isAgg9,
  z9 := Tryz.sizeOf9,
  v9 := Tryz.zeroValue9,
  t46 := Tryz.underlying228,
  a46 := Tryz.isAgg228,
  z46 := Tryz.sizeOf228,
  v46 := Tryz.zeroValue228,
  t51 := Tryz.underlying278,
  a51 := Tryz.isAgg278,
  z51 := Tryz.sizeOf278,
  v51 := Tryz.zeroValue278,
  t59 := Tryz.underlying148,
  a59 := Tryz.isAgg148,
  z59 := Tryz.sizeOf148,
  v59 := Tryz.zeroValue148,
  t146 := Tryz.underlying289,
  a146 := Tryz.isAgg289,
  z146 := Tryz.sizeOf289,
  v146 := Tryz.zeroValue289,
  g1 := by kernel_rfl }
-- written by shelflay.py for the seat YtdmpkgiijddcdaaGreatDoor
def cutSLay_ren : Go.Shelf.Ren := ⟨fun | 104 => 53 | 211 => 105 | 207 => 143 | n => n, fun | 9 => 9 | 4 => 4 | 24 => 111 | 3 => 3 | 20 => 20 | n => n, fun | n => n⟩
theorem cutSLay : Go.Proofs.Lays.n104 Tryz.prog cutSLay_ren := {
  mixed := by kernel_rfl,
  f104 := Tryz.func53.trans (congrArg some (by kernel_rfl)),
  f207 := Tryz.func143.trans (congrArg some (by kernel_rfl)),
  f211 := Tryz.func105.trans (congrArg some (by kernel_rfl)),
  t3 := Tryz.underlying3,
  a3 := Tryz.isAgg3,
  z3 := Tryz.sizeOf3,
  v3 := Tryz.zeroValue3,
  t4 := Tryz.underlying4,
  a4 := Tryz.isAgg4,
  z4 := Tryz.sizeOf4,
  v4 := Tryz.zeroValue4,
  t9 := Tryz.underlying9,
  a9 := Tryz.isAgg9,
  z9 := Tryz.sizeOf9,
  v9 := Tryz.zeroValue9,
  t24 := Tryz.underlying111,
  a24 := Tryz.isAgg111,
  z24 := Tryz.sizeOf111,
  v24 := Tryz.zeroValue111 }
-- written by shelflay.py for the seat YtdmpkgiijddcdaaGreatDoor
def splitLay_ren : Go.Shelf.Ren := ⟨fun | 146 => 54 | 221 => 106 | 268 => 144 | 138 => 145 | 143 => 146 | 195 => 175 | 197 => 157 | 218 => 176 | 219 => 166 | 260 => 186 | 217 => 142 | 225 => 192 | 224 => 193 | 267 => 194 | 266 => 174 | 314 => 211 | n => n, fun | 9 => 9 | 31 => 32 | 3 => 3 | 4 => 4 | 0 => 0 | 105 => 219 | 21 => 21 | 5 => 5 | 46 => 228 | 119 => 281 | 139 => 284 | 138 => 283 | 146 => 289 | 51 => 278 | 20 => 20 | n => n, fun | 1 => 4 | 3 => 6 | 4 => 7 | n => n⟩
theorem splitLay : Go.Proofs.Lays.n146 Tryz.prog splitLay_ren := {
  mixed := by kernel_rfl,
  f138 := Tryz.func145.trans (congrArg some (by kernel_rfl)),
  f143 := Tryz.func146.trans (congrArg some (by kernel_rfl)),
  f146 := Tryz.func54.trans (congrArg some (by kernel_rfl)),
  f195 := Tryz.func175.trans (congrArg some (by kernel_rfl)),
  f197 := Tryz.func157.trans (congrArg some (by kernel_rfl)),
  f217 := Tryz.func142.trans (congrArg some (by kernel_rfl)),
  f218 := Tryz.func176.trans (congrArg some (by kernel_rfl)),
  f219 := Tryz.func166.trans (congrArg some (by kernel_rfl)),
  f221 := Tryz.func106.trans (congrArg some (by kernel_rfl)),
  f224 := Tryz.func193.trans (congrArg some (by kernel_rfl)),
  f225 := Tryz.func192.trans (congrArg some (by kernel_rfl)),
  f260 := Tryz.func186.trans (congrArg some (by kernel_rfl)),
  f266 := Tryz.func174.trans (congrArg some (by kernel_rfl)),
  f267 := Tryz.func194.trans (congrArg some (by kernel_rfl)),
  f268 := Tryz.func144.trans (congrArg some (by kernel_rfl)),
  f314 := Tryz.func211.trans (congrArg some (by kernel_rfl)),
  t0 := Tryz.underlying0,
  a0 := Tryz.isAgg0,
  z0 := Tryz.sizeOf0,
  v0 := Tryz.zeroValue0,
  t3 := Tryz.underlying3,
  a3 := Tryz.isAgg3,
  z3 := Tryz.sizeOf3,
  v3 := Tryz.zeroValue3,
  t4 := Tryz.underlying4,
  a4 := Tryz.isAgg4,
  z4 := Tryz.sizeOf4,
  v4 := Tryz.zeroValue4,
  t5 := Tryz.underlying5,
  a5 := Tryz.isAgg5,
  z5 := Tryz.sizeOf5,
  v5 := Tryz.zeroValue5,
  t9 := Tryz.underlying9,
  a9 := Tryz.isAgg9,
  z9 := Tryz.sizeOf9,
  v9 := Tryz.zeroValue9,
  t21 := Tryz.underlying21,
  a21 := Tryz.isAgg21,
  z21 := Tryz.sizeOf21,
  v21 := Tryz.zeroValue21,
  t31 := Tryz.underlying32,
  a31 := Tryz.isAgg32,
  z31 := Tryz.sizeOf32,
  v31 := Tryz.zeroValue32,
  t46 := Tryz.underlying228,
  a46 := Tryz.isAgg228,
  z46 := Tryz.sizeOf228,
  v46 := Tryz.zeroValue228,
  t51 := Tryz.underlying278,
  a51 := Tryz.isAgg278,
  z51 := Tryz.sizeOf278,
  v51 := Tryz.zeroValue278,
  t105 := Tryz.underlying219,
  a105 := Tryz.isAgg219,
  z105 := Tryz.sizeOf219,
  v105 := Tryz.zeroValue219,
  t119 := Tryz.underlying281,
  a119 := Tryz.isAgg281,
  z119 := Tryz.sizeOf281,
  t138 := Tryz.underlying283,
  a138 := Tryz.isAgg283,
  z138 := Tryz.sizeOf283,
  v138 := Tryz.zeroValue283,
  t139 := Tryz.underlying284,
  a139 := Tryz.isAgg284,
  z139 := Tryz.sizeOf284,
  v139 := Tryz.zeroValue284,
  t146 := Tryz.underlying289,
  a146 := Tryz.isAgg289,
  z146 := Tryz.sizeOf289,
  v146 := Tryz.zeroValue289,
  g1 := by kernel_rfl,
  g3 := by kernel_rfl,
  g4 := by kernel_rfl }
-- written by shelflay.py for the seat YtdmpkgiijddcdaaGreatDoor
-- written by shelflay.py for the seat YtdmpkgiijddcdaaGreatDoor
def idxBLay_ren : Go.Shelf.Ren := ⟨fun | 137 => 104 | 217 => 142 | 266 => 174 | n => n, fun | 9 => 9 | 5 => 5 | 3 => 3 | 20 => 20 | n => n, fun | n => n⟩
theorem idxBLay : Go.Proofs.Lays.n137 Tryz.prog idxBLay_ren := {
  mixed := by kernel_rfl,
  f137 := Tryz.func104.trans (congrArg some (by kernel_rfl)),
  f217 := Tryz.func142.trans (congrArg some (by kernel_rfl)),
  f266 := Tryz.func174.trans (congrArg some (by kernel_rfl)),
  t3 := Tryz.underlying3,
  a3 := Tryz.isAgg3,
  z3 := Tryz.sizeOf3,
  v3 := Tryz.zeroValue3,
  t5 := Tryz.underlying5,
  a5 := Tryz.isAgg5,
  z5 := Tryz.sizeOf5,
  v5 := Tryz.zeroValue5,
  t9 := Tryz.underlying9,
  a9 := Tryz.isAgg9,
  z9 := Tryz.sizeOf9,
  v9 := Tryz.zeroValue9 }

theorem len_size (s : ByteArray) : s.data.toList.length = s.size := by rw [Array.length_toList]; rfl
theorem tx_cut (s : ByteArray) (c : UInt8) (w : World) (h : TxP w) (hs : s.size < 4294967281) :
    Calls Tryz.prog 83 #[.string s, .string ⟨#[c]⟩] w fun e w' => e = .returned (.tuple #[.string (bs (Lib.cut s.data.toList [c]).1), .string (bs (Lib.cut s.data.toList [c]).2.1), .bool (Lib.cut s.data.toList [c]).2.2]) ∧ Below w.heap.size w w' := by
  obtain ⟨m, hm⟩ := h.len
  refine (Any.strings_Cut cutLay s ⟨#[c]⟩ m w hs hm).mono fun e w' ⟨he, n, hw⟩ => ⟨he, ?_⟩
  rw [hw]
  exact below_drewN (Below.refl _ _) n
theorem tx_cutSuffix (s : ByteArray) (c : UInt8) (w : World) (hs : s.size ≤ 9223372036854775807) :
    Calls Tryz.prog 53 #[.string s, .string ⟨#[c]⟩] w fun e w' => e = .returned (.tuple #[.string (bs (Lib.trimSuffix s.data.toList [c])), .bool (Lib.hasSuffix s.data.toList [c])]) ∧ w = w' :=
  (Any.strings_CutSuffix cutSLay s ⟨#[c]⟩ w hs).mono fun _ _ ⟨he, hw⟩ => ⟨he, hw.symm⟩
theorem tx_idxByte (s : ByteArray) (c : Int) (w : World) :
    Calls Tryz.prog 104 #[.string s, .int .u8 c] w fun e w' => e = .returned (.int .i64 (Lib.indexByte s.data.toList c.toNat.toUInt8)) ∧ w = w' :=
  (Any.strings_IndexByte idxBLay s c w).mono fun _ _ ⟨he, hw⟩ => ⟨he, hw.symm⟩
theorem split_len (c : UInt8) : ∀ (n : Nat) (l : List UInt8), l.length ≤ n → (∀ x ∈ Lib.split l [c], x.length ≤ l.length) ∧ (Lib.split l [c]).length ≤ l.length + 1
  | n, l, hn => by
    rcases first_sign c l with h | ⟨a, r, rfl, h⟩
    · rw [split_no h]
      exact ⟨fun x hx => by rcases List.mem_singleton.1 hx with rfl; exact Nat.le_refl _, by simp⟩
    · cases n with
      | zero => simp at hn
      | succ n =>
        obtain ⟨i1, i2⟩ := split_len c n r (by simp at hn; omega)
        rw [split_sign h]
        refine ⟨fun x hx => ?_, ?_⟩
        · rcases List.mem_cons.1 hx with rfl | hx
          · simp
          · have := i1 x hx; simp; omega
        · simp only [List.length_cons, List.length_append]; omega
end Go.Proofs.YtdmpkgiijddcdaaGreatDoor
