/- Parts: Cmp, RecS, GrC, TieP, VtT, VpP. -/
import Derived.Test.YtmbeeaohidgfgaaDoorMg14
import Derived.Test.YtmbeeaohidgfgaaDoorMg15
import Derived.Test.YtmbeeaohidgfgaaDoorMg12
import Derived.Lib.Join
import Derived.Lib.AtoiTie
/- Plain: the order of texts. -/
namespace Go.Proofs.YtmbeeaohidgfgaaDoor
open Go.RowKit

open Go Go.RowKit


/-! ### The order of names -/
/-! ### record.Get -/
theorem res3 {w w1 : World} {T : TypeId} {c0 c1 c2 : Value} (a b c : Value) (hB : Below w.heap.size w w1) (h : w1.heap[w.heap.size]? = some (.cells #[c0, c1, c2] T (0, 0))) :
    Below w.heap.size w (((w1.setCell ⟨w.heap.size, 0, none⟩ a).setCell ⟨w.heap.size, 1, none⟩ b).setCell ⟨w.heap.size, 2, none⟩ c) ∧
    (((w1.setCell ⟨w.heap.size, 0, none⟩ a).setCell ⟨w.heap.size, 1, none⟩ b).setCell ⟨w.heap.size, 2, none⟩ c).cell? ⟨w.heap.size, 0, none⟩ = some a ∧
    (((w1.setCell ⟨w.heap.size, 0, none⟩ a).setCell ⟨w.heap.size, 1, none⟩ b).setCell ⟨w.heap.size, 2, none⟩ c).cell? ⟨w.heap.size, 1, none⟩ = some b ∧
    (((w1.setCell ⟨w.heap.size, 0, none⟩ a).setCell ⟨w.heap.size, 1, none⟩ b).setCell ⟨w.heap.size, 2, none⟩ c).cell? ⟨w.heap.size, 2, none⟩ = some c := by
  have h3 := setCell_block (setCell_block (setCell_block h 0 a) 1 b) 2 c
  exact ⟨((hB.setCell (p := ⟨_, 0, none⟩) (Nat.le_refl _) _).setCell (p := ⟨_, 1, none⟩) (Nat.le_refl _) _).setCell (p := ⟨_, 2, none⟩) (Nat.le_refl _) _, block_cell h3 0, block_cell h3 1, block_cell h3 2⟩

/-! ### What a right graph gives -/

open Go

theorem dbl_len2 (l : List UInt8) : (dbl l).length ≤ 2 * l.length := by
  induction l with
  | nil => exact Nat.le_refl _
  | cons c l ih => rw [dbl_cons]; split <;> simp <;> omega
theorem show_len {v : Val} (h : valE v = 0) : (showL v).length ≤ 42 := by
  unfold showL
  rcases val_parts h with ⟨h1, h2, h3, _⟩ | ⟨h1, _⟩ | ⟨h1, _, h3, _⟩
  · rw [if_pos h1]; have := (itoa_small h2 h3).2; omega
  · rw [if_neg (by omega), if_pos h1]
    split
    · show (4 : Nat) ≤ 42; omega
    · show (5 : Nat) ≤ 42; omega
  · rw [if_neg (by omega), if_neg (by omega)]
    have h4 := dbl_len2 v.s.data.toList
    have h5 : v.s.data.toList.length = v.s.size := by rw [Array.length_toList]; rfl
    simp only [List.length_cons, List.length_append, List.length_nil]
    omega

/-- A numeral that is not too long is read as it was written. -/
theorem atoi_back (n : Int) (h : (Lib.trimPrefix (Lib.itoa n) [45]).length ≤ 9) : Lib.atoiAll (Lib.itoa n) = .ok n := by
  refine atoi_itoa ?_
  rcases itoa_cases n with ⟨u, hu, e⟩ | ⟨u, h0, hu, e⟩
  · rw [e, digits_trim] at h
    rw [e]; omega
  · rw [e, minus_trim] at h
    rw [e, List.length_cons]; omega
theorem atoi_range {l : List UInt8} {v : Int} (h : Lib.atoiAll l = .ok v) : I64 v := by
  unfold Lib.atoiAll at h
  unfold I64
  split at h
  · cases h
  · rename_i c r
    simp only at h
    split at h
    · cases h
    · cases h
    · rename_i u hu
      split at h
      · cases h
      · rename_i h1
        split at h
        · cases h
        · rename_i h2
          injection h with h
          by_cases hn : c.toNat = 45
          · rw [if_pos hn] at h
            have : ¬ 9223372036854775808 < u := fun e => h2 ⟨hn, e⟩
            omega
          · rw [if_neg hn] at h
            have : ¬ 9223372036854775808 ≤ u := fun e => h1 ⟨hn, e⟩
            omega
/-- Whether Atoi's number is written so, and is short: the number that is read. -/
theorem int_of_atoi {l : List UInt8} {v : Int} (h : Lib.atoiAll l = .ok v) : intL9 l = if Lib.itoa v = l ∧ (Lib.trimPrefix l [45]).length ≤ 9 then some v else none := by
  split
  · rename_i hc; exact intL9_iff.2 hc
  · rename_i hc
    cases hq : intL9 l with
    | none => rfl
    | some n =>
      obtain ⟨e1, e2⟩ := intL9_iff.1 hq
      have h2 := atoi_back n (by rw [e1]; exact e2)
      rw [e1, h] at h2
      injection h2 with h2
      subst h2
      exact absurd ⟨e1, e2⟩ hc
theorem int_of_bad {l : List UInt8} (h : ∀ v, Lib.atoiAll l ≠ .ok v) : intL9 l = none := by
  cases hq : intL9 l with
  | none => rfl
  | some n =>
    obtain ⟨e1, e2⟩ := intL9_iff.1 hq
    have h2 := atoi_back n (by rw [e1]; exact e2)
    rw [e1] at h2
    exact absurd h2 (h n)
end Go.Proofs.YtmbeeaohidgfgaaDoor
