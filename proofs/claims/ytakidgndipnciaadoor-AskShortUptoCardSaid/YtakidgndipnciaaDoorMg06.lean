/- Parts: KinA, KinB, KinC, KinD, Eqs, VtV. -/
import Derived.Test.YtakidgndipnciaaDoorMg04
import Derived.Test.YtakidgndipnciaaDoorMg05
import Derived.Maps.OwnIn
import Derived.Maps.Views
import Derived.StringKeys
import Derived.Test.YtakidgndipnciaaDoorRows
import Derived.RangeFuncNested
import Derived.RangeFuncBound
import Derived.RangeFuncCalls
import Derived.RangeFuncLeaves
import Derived.RangeFuncBox
import Derived.RangeFuncWrites
import Derived.Shelf.Abstract
import Derived.OwnWalkIn
import Derived.TacticsInMore
import Derived.LoopNIn
import Derived.LoopIn
import Derived.Test.YtakidgndipnciaaDoorMg02
import Derived.Laws.StructEq
import Derived.Test.YtakidgndipnciaaDoorMg01
import Derived.Test.YtakidgndipnciaaDoorMg03
/- Plain: a map from texts to bools that the call made, as a set; the kin of a kind; an append inside a fence. -/
namespace Go.Proofs.YtakidgndipnciaaDoor
open Go Go.RowKit
open Go.Maps (Keyed)

/-! ### Kin -/
/-! ### A set of texts in memory -/
open Go Go.RowKit Go.Shelf

attribute [local go_sem] Oper.semAt_some


attribute [local go_sem] Oper.semAt_some

theorem str_info : (Tryd.prog.info? 9).map (fun i => (i.zero, i.size, i.bytes)) = some (some (.string .empty), 1, 16) := by kernel_rfl

open Go.RowKit

theorem bytes_beq (a b : ByteArray) : (a.toList == b.toList) = decide (a = b) := by
  rw [Bool.eq_iff_iff, beq_iff_eq, decide_eq_true_eq]
  constructor
  · intro h
    rw [ByteArray.toList_eq, ByteArray.toList_eq] at h
    have := Array.toList_inj.1 h
    cases a; cases b; simp at this; rw [this]
  · intro h; rw [h]

/-! ### kind.Find -/

theorem bytes_eq (a b : ByteArray) : (a.toList = b.toList) = (a = b) := by
  have := bytes_beq a b
  apply propext
  constructor
  · intro h; rw [h] at this; simpa using this.symm
  · intro h; rw [h]
open Go

def bs (l : List UInt8) : ByteArray := ⟨l.toArray⟩
theorem bs_list (l : List UInt8) : (bs l).data.toList = l := by simp [bs]
theorem bs_size (l : List UInt8) : (bs l).size = l.length := by simp [bs, ByteArray.size]
theorem bs_of (s : ByteArray) : bs s.data.toList = s := by cases s; simp [bs]
theorem bs_append (a b : List UInt8) : bs a ++ bs b = bs (a ++ b) := by
  apply ByteArray.ext
  simp [bs]
def trueL : List UInt8 := [116, 114, 117, 101]
def falseL : List UInt8 := [102, 97, 108, 115, 101]
/-- A value that is right, as text. -/
def showL (v : Val) : List UInt8 := if v.ty = 1 then Lib.itoa v.n else if v.ty = 2 then (if v.n = 1 then trueL else falseL) else 39 :: (dbl v.s.data.toList ++ [39])
/-- What stands between quotes. -/
def bodyL (l : List UInt8) : List UInt8 := Lib.replaceAll ((l.drop 1).take (l.length - 2)) [39, 39] [39]
def quotB (l : List UInt8) : Bool := decide (2 ≤ l.length) && decide (l = 39 :: (dbl (bodyL l) ++ [39])) && !(bodyL l).any strC
/-- A text as a value: the fault; the value. -/
def readE (l : List UInt8) : Int :=
  if l = falseL ∨ l = trueL then 0
  else if l.head? = some 39 then (if quotB l = true then (if 20 < (bodyL l).length then 4 else 0) else 2)
  else match intL9 l with
    | some n => if n < -1000000 ∨ 1000000 < n then 1 else 0
    | none => 2
def readV (l : List UInt8) : Val :=
  if readE l ≠ 0 then ⟨0, 0, .empty⟩
  else if l = falseL then ⟨2, 0, .empty⟩ else if l = trueL then ⟨2, 1, .empty⟩
  else if l.head? = some 39 then ⟨3, 0, bs (bodyL l)⟩
  else match intL9 l with
    | some n => ⟨1, n, .empty⟩
    | none => ⟨0, 0, .empty⟩
theorem empty_list : ByteArray.empty.toList = [] := by decide +kernel
theorem empty_iff (s : ByteArray) : s.toList.isEmpty = true ↔ s = .empty := by
  rw [List.isEmpty_iff]
  constructor
  · intro h
    rw [← bytes_eq, h, empty_list]
  · rintro rfl; exact empty_list
theorem val_parts {v : Val} (h : valE v = 0) : (v.ty = 1 ∧ -1000000 ≤ v.n ∧ v.n ≤ 1000000 ∧ v.s = .empty) ∨ (v.ty = 2 ∧ (v.n = 0 ∨ v.n = 1) ∧ v.s = .empty) ∨ (v.ty = 3 ∧ v.n = 0 ∧ v.s.size ≤ 20 ∧ v.s.data.toList.any strC = false) := by
  unfold valE at h
  split at h
  · rename_i ht
    split at h
    · cases h
    · rename_i hn
      split at h
      · cases h
      · rename_i hs
        split at h
        · cases h
        · rename_i hc
          have hsE : v.ty ≠ 3 → v.s = .empty := fun h3 => by
            rw [← empty_iff]
            cases hq : v.s.toList.isEmpty with
            | true => rfl
            | false => exact absurd (.inr ⟨h3, hq⟩) hc
          rcases ht with h1 | h1 | h1
          · left
            rw [h1] at hn
            unfold valLo valHi at hn
            simp at hn
            exact ⟨h1, by omega, by omega, hsE (by omega)⟩
          · right; left
            rw [h1] at hn
            unfold valLo valHi at hn
            simp at hn
            exact ⟨h1, by omega, hsE (by omega)⟩
          · right; right
            rw [h1] at hn
            unfold valLo valHi at hn
            simp at hn
            refine ⟨h1, by omega, ?_, ?_⟩
            · have : ¬ (20 < v.s.size) := fun e => hs ⟨h1, e⟩
              omega
            · cases hq : v.s.data.toList.any strC with
              | false => rfl
              | true => exact absurd (.inl hq) hc
  · cases h
/-- At most seven digits. -/
theorem itoa_small {n : Int} (h1 : -1000000 ≤ n) (h2 : n ≤ 1000000) : (Lib.trimPrefix (Lib.itoa n) [45]).length ≤ 9 ∧ (Lib.itoa n).length ≤ 10 := by
  have hd : ∀ u, u ≤ 1000000 → (Lib.decDigits u).length ≤ 7 := fun u hu => by
    rw [Lib.decDigits_length]
    rcases Nat.lt_or_ge (Lib.nDigits u) 8 with h | h
    · omega
    · have e : Lib.nDigits u ≤ 7 := by
        by_cases h7 : u < 10 ^ 6
        · by_cases h0 : u < 10
          · rw [Lib.nDigits_small h0]; omega
          · rcases Nat.lt_or_ge u (10 ^ 2) with a | a
            · rw [Lib.nDigits_unique 1 u (by omega) a]; omega
            · rcases Nat.lt_or_ge u (10 ^ 3) with a2 | a2
              · rw [Lib.nDigits_unique 2 u a a2]; omega
              · rcases Nat.lt_or_ge u (10 ^ 4) with a3 | a3
                · rw [Lib.nDigits_unique 3 u a2 a3]; omega
                · rcases Nat.lt_or_ge u (10 ^ 5) with a4 | a4
                  · rw [Lib.nDigits_unique 4 u a3 a4]; omega
                  · rw [Lib.nDigits_unique 5 u a4 h7]; omega
        · rw [Lib.nDigits_unique 6 u (by omega) (by have : (10 : Nat) ^ 7 = 10000000 := by decide
                                                    omega)]; omega
      omega
  rcases itoa_cases n with ⟨u, hu, e⟩ | ⟨u, _, hu, e⟩
  · have := hd u (by omega)
    rw [e, digits_trim]; exact ⟨by omega, by omega⟩
  · have := hd u (by omega)
    rw [e, minus_trim]; exact ⟨by omega, by simp; omega⟩
theorem show_text {v : Val} (h : v.ty = 3) : showL v = 39 :: (dbl v.s.data.toList ++ [39]) := by
  unfold showL; rw [if_neg (by omega), if_neg (by omega)]
end Go.Proofs.YtakidgndipnciaaDoor
