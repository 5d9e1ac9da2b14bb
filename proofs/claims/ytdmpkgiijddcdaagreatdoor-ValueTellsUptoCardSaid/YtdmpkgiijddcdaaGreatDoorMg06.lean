/- Parts: Own, Qr, KinA, KinB, KinC, KinD, Eqs, VtV. -/
import Derived.Test.YtdmpkgiijddcdaaGreatDoorMg01
import Derived.Maps.AppendAt
import Derived.Sort.BigQuietIn
import Derived.Maps.OwnIn
import Derived.Maps.Views
import Derived.StringKeys
import Derived.Test.YtdmpkgiijddcdaaGreatDoorRows
import Derived.RangeFuncNested
import Derived.RangeFuncBound
import Derived.RangeFuncCalls
import Derived.RangeFuncLeaves
import Derived.RangeFuncBox
import Derived.RangeFuncWrites
import Derived.Shelf.Abstract
import Derived.OwnWalkIn
import Derived.TacticsInMore
import Derived.LoopNIn
import Derived.LoopIn
import Derived.Laws.StructEq
import Derived.Test.YtdmpkgiijddcdaaGreatDoorMg03
import Derived.Test.YtdmpkgiijddcdaaGreatDoorMg04
import Derived.Test.YtdmpkgiijddcdaaGreatDoorMg05
/- Slices that a call owns (from any offset of a block of its own), and what append, a store and a cut make of them. No condition. -/
namespace Go.Proofs.YtdmpkgiijddcdaaGreatDoor
open Go.RowKit

/-- The slice value v, in a block from B on, holds just the cells xs; nobody else writes there. -/
def Own (w : World) (B : Nat) (e : TypeId) (sz : Nat) (v : Value) (n : Nat) (xs : List Value) : Prop :=
  xs.length = n * sz ∧
  ((v = .slice none 0 0 ∧ n = 0) ∨
   ∃ g o cap cur, v = .slice (some ⟨g, o, none⟩) n cap ∧ B ≤ g ∧ w.heap[g]? = some (.cells cur e (0, 0)) ∧ n ≤ cap ∧ cap ≤ maxLen ∧ o + cap * sz ≤ cur.size ∧ (cur.toList.drop o).take (n * sz) = xs)

section
variable {w w' : World} {B : Nat} {e : TypeId} {sz : Nat} {v : Value} {n : Nat} {xs : List Value}

theorem Own.nil (w : World) (B : Nat) (e : TypeId) (sz : Nat) : Own w B e sz (.slice none 0 0) 0 [] := ⟨by simp, .inl ⟨rfl, rfl⟩⟩
theorem Own.form (h : Own w B e sz v n xs) : ∃ A c, v = .slice A n c ∧ n ≤ c ∧ c ≤ maxLen := by
  rcases h.2 with ⟨rfl, rfl⟩ | ⟨g, o, cap, cur, rfl, _, _, h1, h2, _⟩
  · exact ⟨none, 0, rfl, Nat.le_refl _, Nat.zero_le _⟩
  · exact ⟨_, _, rfl, h1, h2⟩
theorem Own.lt (h : Own w B e sz v n xs) : ∀ k, v.ownBlock = some k → B ≤ k ∧ k < w.heap.size := by
  intro k hk
  rcases h.2 with ⟨rfl, _⟩ | ⟨g, o, cap, cur, rfl, hb, hg, _⟩
  · simp [Value.ownBlock] at hk
  · simp [Value.ownBlock] at hk
    subst hk
    exact ⟨hb, (Array.getElem?_eq_some_iff.1 hg).1⟩
/-- It stays as long as its block does. -/
theorem Own.keep (h : Own w B e sz v n xs) (hk : ∀ k, v.ownBlock = some k → w'.heap[k]? = w.heap[k]?) : Own w' B e sz v n xs := by
  refine ⟨h.1, ?_⟩
  rcases h.2 with hn | ⟨g, o, cap, cur, rfl, hb, hg, rest⟩
  · exact .inl hn
  · exact .inr ⟨g, o, cap, cur, rfl, hb, (hk g (by simp [Value.ownBlock])).trans hg, rest⟩
theorem Own.below (h : Own w B e sz v n xs) (hb : Below w.heap.size w w') : Own w' B e sz v n xs :=
  h.keep fun k hk => hb.block k (h.lt k hk).2
theorem Own.alloc (h : Own w B e sz v n xs) (o : Obj) : Own (w.alloc o) B e sz v n xs :=
  h.keep fun k hk => Below.heap_alloc w o k (h.lt k hk).2
theorem Own.drewN (h : Own w B e sz v n xs) (k : Nat) : Own (w.drewN k) B e sz v n xs := h
theorem Own.setCell (h : Own w B e sz v n xs) (p : Addr) (u : Value) (hne : v.ownBlock ≠ some p.block) : Own (w.setCell p u) B e sz v n xs :=
  h.keep fun k hk => Below.heap_setCell w p u k (fun e => hne (by rw [hk, e]))
theorem Own.mono {B' : Nat} (h : Own w B e sz v n xs) (hB : B' ≤ B) : Own w B' e sz v n xs := by
  refine ⟨h.1, ?_⟩
  rcases h.2 with hn | ⟨g, o, cap, cur, rfl, hb, rest⟩
  · exact .inl hn
  · exact .inr ⟨g, o, cap, cur, rfl, by omega, rest⟩
/-- A cell of it. -/
theorem Own.cell (h : Own w B e sz v n xs) {g o c : Nat} (hv : v = .slice (some ⟨g, o, none⟩) n c) {j : Nat} {u : Value} (hj : xs[j]? = some u) : w.cell? ⟨g, o + j, none⟩ = some u := by
  rcases h.2 with ⟨rfl, _⟩ | ⟨g', o', cap, cur, rfl, _, hg, _, _, hcs, ht⟩
  · cases hv
  · injection hv with h1 _ _
    injection h1 with h1
    injection h1 with h1 h2
    subst h1; subst h2
    rw [cell_of_row w g' _ cur e (0, 0) hg]
    rw [← ht, List.getElem?_take] at hj
    split at hj
    · rw [List.getElem?_drop] at hj; simpa using hj
    · cases hj
theorem Own.frozen (h : Own w B e sz v n xs) {g o c : Nat} (hv : v = .slice (some ⟨g, o, none⟩) n c) (j : Nat) : w.frozen? ⟨g, j, none⟩ = false := by
  rcases h.2 with ⟨rfl, _⟩ | ⟨g', o', cap, cur, rfl, _, hg, _⟩
  · cases hv
  · injection hv with h1 _ _
    injection h1 with h1
    injection h1 with h1 h2
    subst h1
    simp [World.frozen?, hg]
theorem Own.addr (h : Own w B e sz v n xs) (hn : 0 < n) : ∃ g o c, v = .slice (some ⟨g, o, none⟩) n c ∧ B ≤ g ∧ g < w.heap.size := by
  rcases h.2 with ⟨_, h0⟩ | ⟨g, o, cap, cur, rfl, hb, hg, _⟩
  · omega
  · exact ⟨g, o, cap, rfl, hb, (Array.getElem?_eq_some_iff.1 hg).1⟩
/-- A store into it. -/
theorem Own.store {g o c : Nat} (h : Own w B e sz (.slice (some ⟨g, o, none⟩) n c) n xs) (j : Nat) (hj : j < n * sz) (u : Value) : Own (w.setCell ⟨g, o + j, none⟩ u) B e sz (.slice (some ⟨g, o, none⟩) n c) n (xs.set j u) := by
  refine ⟨by rw [List.length_set]; exact h.1, ?_⟩
  rcases h.2 with ⟨h0, _⟩ | ⟨g', o', cap, cur, hv, hb, hg, h1, h2, h3, ht⟩
  · cases h0
  · injection hv with e1 _ e3
    injection e1 with e1
    injection e1 with e1 e2
    subst e1; subst e2; subst e3
    refine .inr ⟨g, o, c, cur.setIfInBounds (o + j) u, rfl, hb, ?_, h1, h2, by simpa using h3, ?_⟩
    · simp [World.setCell, Array.getElem?_modify, hg]
    · have hle : n * sz ≤ c * sz := Nat.mul_le_mul_right _ h1
      rw [← ht]
      apply List.ext_getElem?
      intro i
      simp only [List.getElem?_take, List.getElem?_drop, Array.toList_setIfInBounds, List.getElem?_set]
      by_cases hij : j = i
      · subst hij
        have hoj : o + j < cur.size := by omega
        have hjx : j < (List.take (n * sz) (List.drop o cur.toList)).length := by simp; omega
        simp [hj, hoj]
        omega
      · simp [hij]
/-- What is behind the first k. -/
theorem Own.cut {g o c : Nat} (h : Own w B e sz (.slice (some ⟨g, o, none⟩) n c) n xs) {k : Nat} (hk : k ≤ n) (_hc : k < c) : Own w B e sz (.slice (some ⟨g, o + k * sz, none⟩) (n - k) (c - k)) (n - k) (xs.drop (k * sz)) := by
  refine ⟨by rw [List.length_drop, h.1, Nat.sub_mul], ?_⟩
  rcases h.2 with ⟨h0, _⟩ | ⟨g', o', cap, cur, hv, hb, hg, h1, h2, h3, ht⟩
  · cases h0
  · injection hv with e1 _ e3
    injection e1 with e1
    injection e1 with e1 e2
    subst e1; subst e2; subst e3
    refine .inr ⟨g, o + k * sz, c - k, cur, rfl, hb, hg, by omega, by omega, ?_, ?_⟩
    · have : k * sz + (c - k) * sz = c * sz := by rw [← Nat.add_mul]; congr 1; omega
      omega
    · rw [← ht, List.drop_take, List.drop_drop, Nat.sub_mul]
end

section
variable {P : Program} (w : World)
end

/-- An owned row of ints reads as them. -/
theorem Own.ints {w : World} {B : Nat} {e : TypeId} {v : Value} {l : List Int} (hl : ∀ x ∈ l, I64 x) (h : Own w B e 1 v l.length (l.map (Value.int .i64))) : Sl intL w v l := by
  obtain ⟨A, c, rfl, h1, h2⟩ := h.form
  refine ⟨A, c, rfl, h1, h2, fun i d hi => ?_⟩
  obtain ⟨g, o, c', hv, _, _⟩ := h.addr (len_pos hi)
  injection hv with hA _ hc
  subst hA; subst hc
  refine ⟨g, o, _, rfl, ⟨rfl, hl d (List.mem_of_getElem? hi)⟩, fun j u hj => ?_⟩
  match j, hj with
  | 0, hj =>
    simp at hj
    subst hj
    have := h.cell rfl (j := i) (u := .int .i64 d) (by simp [hi])
    simpa [intL, flatL] using this
open Go Go.RowKit Go.BigFrame

section
variable {F : Fence} {n : Nat} {P : Program} {ops : Array Oper} {md : Region.Mode} {C : World → Prop}
end
open Go Go.RowKit
open Go.Maps (Keyed)

/-! ### Kin -/
/-- What comes of a kind is looked at once more: whoever it comes of. -/
def kinStep (S : ByteArray → Bool) (k : Knd) : ByteArray → Bool := if S k.name = true then fun s => S s || k.ofs.any (fun o => decide (o = s)) else S
def kinSet (l : List Knd) (name : ByteArray) : ByteArray → Bool := l.foldr (fun k S => kinStep S k) (fun s => decide (name = s))
def kinL (l : List Knd) (name : ByteArray) : List ByteArray := (l.filter fun k => kinSet l name k.name).map (·.name)

/-! ### A set of texts in memory -/
open Go Go.RowKit Go.Shelf

attribute [local go_sem] Oper.semAt_some


attribute [local go_sem] Oper.semAt_some


theorem bytes_beq (a b : ByteArray) : (a.toList == b.toList) = decide (a = b) := by
  rw [Bool.eq_iff_iff, beq_iff_eq, decide_eq_true_eq]
  constructor
  · intro h
    rw [ByteArray.toList_eq, ByteArray.toList_eq] at h
    have := Array.toList_inj.1 h
    cases a; cases b; simp at this; rw [this]
  · intro h; rw [h]

/-! ### kind.Find -/

theorem bytes_eq (a b : ByteArray) : (a.toList = b.toList) = (a = b) := by
  have := bytes_beq a b
  apply propext
  constructor
  · intro h; rw [h] at this; simpa using this.symm
  · intro h; rw [h]
open Go

def bs (l : List UInt8) : ByteArray := ⟨l.toArray⟩
theorem bs_list (l : List UInt8) : (bs l).data.toList = l := by simp [bs]
theorem bs_size (l : List UInt8) : (bs l).size = l.length := by simp [bs, ByteArray.size]
theorem bs_of (s : ByteArray) : bs s.data.toList = s := by cases s; simp [bs]
theorem bs_append (a b : List UInt8) : bs a ++ bs b = bs (a ++ b) := by
  apply ByteArray.ext
  simp [bs]
def trueL : List UInt8 := [116, 114, 117, 101]
def falseL : List UInt8 := [102, 97, 108, 115, 101]
/-- A value that is right, as text. -/
def showL (v : Val) : List UInt8 := if v.ty = 1 then Lib.itoa v.n else if v.ty = 2 then (if v.n = 1 then trueL else falseL) else 39 :: (dbl v.s.data.toList ++ [39])
/-- What stands between quotes. -/
def bodyL (l : List UInt8) : List UInt8 := Lib.replaceAll ((l.drop 1).take (l.length - 2)) [39, 39] [39]
def quotB (l : List UInt8) : Bool := decide (2 ≤ l.length) && decide (l = 39 :: (dbl (bodyL l) ++ [39])) && !(bodyL l).any strC
/-- A text as a value: the fault; the value. -/
def readE (l : List UInt8) : Int :=
  if l = falseL ∨ l = trueL then 0
  else if l.head? = some 39 then (if quotB l = true then (if 20 < (bodyL l).length then 4 else 0) else 2)
  else match intL9 l with
    | some n => if n < -1000000 ∨ 1000000 < n then 1 else 0
    | none => 2
def readV (l : List UInt8) : Val :=
  if readE l ≠ 0 then ⟨0, 0, .empty⟩
  else if l = falseL then ⟨2, 0, .empty⟩ else if l = trueL then ⟨2, 1, .empty⟩
  else if l.head? = some 39 then ⟨3, 0, bs (bodyL l)⟩
  else match intL9 l with
    | some n => ⟨1, n, .empty⟩
    | none => ⟨0, 0, .empty⟩
theorem body_of (u : List UInt8) : bodyL (39 :: (dbl u ++ [39])) = u := by
  unfold bodyL
  have e : ((39 :: (dbl u ++ [39])).drop 1).take ((39 :: (dbl u ++ [39])).length - 2) = dbl u := by
    simp
  rw [e, halved]
theorem quot_of {u : List UInt8} (h : u.any strC = false) : quotB (39 :: (dbl u ++ [39])) = true := by
  unfold quotB
  rw [body_of, h]
  simp
/-- A text in quotes is one text's, doubled. -/
theorem quot_iff {l : List UInt8} : quotB l = true ↔ ∃ u, l = 39 :: (dbl u ++ [39]) ∧ u.any strC = false := by
  constructor
  · intro h
    unfold quotB at h
    simp only [Bool.and_eq_true, decide_eq_true_eq, Bool.not_eq_true'] at h
    exact ⟨_, h.1.2, h.2⟩
  · rintro ⟨u, rfl, h⟩; exact quot_of h
theorem empty_list : ByteArray.empty.toList = [] := by decide +kernel
theorem empty_iff (s : ByteArray) : s.toList.isEmpty = true ↔ s = .empty := by
  rw [List.isEmpty_iff]
  constructor
  · intro h
    rw [← bytes_eq, h, empty_list]
  · rintro rfl; exact empty_list
theorem val_parts {v : Val} (h : valE v = 0) : (v.ty = 1 ∧ -1000000 ≤ v.n ∧ v.n ≤ 1000000 ∧ v.s = .empty) ∨ (v.ty = 2 ∧ (v.n = 0 ∨ v.n = 1) ∧ v.s = .empty) ∨ (v.ty = 3 ∧ v.n = 0 ∧ v.s.size ≤ 20 ∧ v.s.data.toList.any strC = false) := by
  unfold valE at h
  split at h
  · rename_i ht
    split at h
    · cases h
    · rename_i hn
      split at h
      · cases h
      · rename_i hs
        split at h
        · cases h
        · rename_i hc
          have hsE : v.ty ≠ 3 → v.s = .empty := fun h3 => by
            rw [← empty_iff]
            cases hq : v.s.toList.isEmpty with
            | true => rfl
            | false => exact absurd (.inr ⟨h3, hq⟩) hc
          rcases ht with h1 | h1 | h1
          · left
            rw [h1] at hn
            unfold valLo valHi at hn
            simp at hn
            exact ⟨h1, by omega, by omega, hsE (by omega)⟩
          · right; left
            rw [h1] at hn
            unfold valLo valHi at hn
            simp at hn
            exact ⟨h1, by omega, hsE (by omega)⟩
          · right; right
            rw [h1] at hn
            unfold valLo valHi at hn
            simp at hn
            refine ⟨h1, by omega, ?_, ?_⟩
            · have : ¬ (20 < v.s.size) := fun e => hs ⟨h1, e⟩
              omega
            · cases hq : v.s.data.toList.any strC with
              | false => rfl
              | true => exact absurd (.inl hq) hc
  · cases h
/-- At most seven digits. -/
theorem itoa_small {n : Int} (h1 : -1000000 ≤ n) (h2 : n ≤ 1000000) : (Lib.trimPrefix (Lib.itoa n) [45]).length ≤ 9 ∧ (Lib.itoa n).length ≤ 10 := by
  have hd : ∀ u, u ≤ 1000000 → (Lib.decDigits u).length ≤ 7 := fun u hu => by
    rw [Lib.decDigits_length]
    rcases Nat.lt_or_ge (Lib.nDigits u) 8 with h | h
    · omega
    · have e : Lib.nDigits u ≤ 7 := by
        by_cases h7 : u < 10 ^ 6
        · by_cases h0 : u < 10
          · rw [Lib.nDigits_small h0]; omega
          · rcases Nat.lt_or_ge u (10 ^ 2) with a | a
            · rw [Lib.nDigits_unique 1 u (by omega) a]; omega
            · rcases Nat.lt_or_ge u (10 ^ 3) with a2 | a2
              · rw [Lib.nDigits_unique 2 u a a2]; omega
              · rcases Nat.lt_or_ge u (10 ^ 4) with a3 | a3
                · rw [Lib.nDigits_unique 3 u a2 a3]; omega
                · rcases Nat.lt_or_ge u (10 ^ 5) with a4 | a4
                  · rw [Lib.nDigits_unique 4 u a3 a4]; omega
                  · rw [Lib.nDigits_unique 5 u a4 h7]; omega
        · rw [Lib.nDigits_unique 6 u (by omega) (by have : (10 : Nat) ^ 7 = 10000000 := by decide
                                                    omega)]; omega
      omega
  rcases itoa_cases n with ⟨u, hu, e⟩ | ⟨u, _, hu, e⟩
  · have := hd u (by omega)
    rw [e, digits_trim]; exact ⟨by omega, by omega⟩
  · have := hd u (by omega)
    rw [e, minus_trim]; exact ⟨by omega, by simp; omega⟩
theorem show_text {v : Val} (h : v.ty = 3) : showL v = 39 :: (dbl v.s.data.toList ++ [39]) := by
  unfold showL; rw [if_neg (by omega), if_neg (by omega)]
theorem readV_bad {l : List UInt8} (h : readE l ≠ 0) : readV l = ⟨0, 0, .empty⟩ := by unfold readV; rw [if_pos h]
end Go.Proofs.YtdmpkgiijddcdaaGreatDoor
