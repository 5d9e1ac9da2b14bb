/- Parts: VtO. -/
import Derived.Test.YtmbeeaohidgfgaaDoorMg09
import Derived.Test.YtmbeeaohidgfgaaDoorMg13
import Derived.Test.YtmbeeaohidgfgaaDoorMg11
import Derived.Test.YtmbeeaohidgfgaaDoorMg12
/- Plain: the order of values. No condition. -/
namespace Go.Proofs.YtmbeeaohidgfgaaDoor
open Go

def ordV (a b : Val) : Int := orI [cmpI a.ty b.ty, cmpI a.n b.n, cmpS a.s b.s]
theorem cmpI_flip (a b : Int) : cmpI b a = - cmpI a b := by unfold cmpI; split <;> (try split) <;> (try split) <;> omega
theorem ordV_eq (a b : Val) : ordV a b = if cmpI a.ty b.ty = 0 then (if cmpI a.n b.n = 0 then (if cmpS a.s b.s = 0 then 0 else cmpS a.s b.s) else cmpI a.n b.n) else cmpI a.ty b.ty := rfl
theorem ordV_flip (a b : Val) : ordV b a = - ordV a b := by
  rw [ordV_eq, ordV_eq, cmpI_flip a.ty b.ty, cmpI_flip a.n b.n, cmpS_anti a.s b.s]
  split <;> split <;> (try split) <;> (try split) <;> (try split) <;> (try split) <;> omega
theorem ordV_zero {a b : Val} : ordV a b = 0 ↔ a = b := by
  rw [ordV_eq]
  constructor
  · intro h
    by_cases h1 : cmpI a.ty b.ty = 0
    · rw [if_pos h1] at h
      by_cases h2 : cmpI a.n b.n = 0
      · rw [if_pos h2] at h
        by_cases h3 : cmpS a.s b.s = 0
        · have e1 := cmpI_zero.1 h1
          have e2 := cmpI_zero.1 h2
          have e3 := cmpS_zero.1 h3
          cases a; cases b
          simp only at e1 e2 e3
          rw [e1, e2, e3]
        · rw [if_neg h3] at h; exact absurd h h3
      · rw [if_neg h2] at h; exact absurd h h2
    · rw [if_neg h1] at h; exact absurd h h1
  · rintro rfl
    rw [if_pos (cmpI_zero.2 rfl), if_pos (cmpI_zero.2 rfl), if_pos (cmpS_zero.2 rfl)]
theorem ordV_neg {a b : Val} : ordV a b < 0 ↔ a.ty < b.ty ∨ (a.ty = b.ty ∧ (a.n < b.n ∨ (a.n = b.n ∧ cmpS a.s b.s < 0))) := by
  rw [ordV_eq]
  by_cases h1 : cmpI a.ty b.ty = 0
  · rw [if_pos h1]
    have e1 := cmpI_zero.1 h1
    by_cases h2 : cmpI a.n b.n = 0
    · rw [if_pos h2]
      have e2 := cmpI_zero.1 h2
      by_cases h3 : cmpS a.s b.s = 0
      · rw [if_pos h3]; omega
      · rw [if_neg h3]; omega
    · rw [if_neg h2, cmpI_neg]
      have e2 : ¬ a.n = b.n := fun e => h2 (cmpI_zero.2 e)
      omega
  · rw [if_neg h1, cmpI_neg]
    have e1 : ¬ a.ty = b.ty := fun e => h1 (cmpI_zero.2 e)
    omega
theorem ordV_trans {a b c : Val} (h : ordV a b < 0) (k : ordV b c < 0) : ordV a c < 0 := by
  rw [ordV_neg] at *
  have ht : cmpS a.s b.s < 0 → cmpS b.s c.s < 0 → cmpS a.s c.s < 0 := cmpS_trans
  omega
theorem ordV_le {a b c : Val} (h : ordV a b ≤ 0) (k : ordV b c ≤ 0) : ordV a c ≤ 0 := by
  rcases Int.lt_or_eq_of_le h with h1 | h1
  · rcases Int.lt_or_eq_of_le k with k1 | k1
    · have := ordV_trans h1 k1; omega
    · rw [← ordV_zero.1 k1]; exact h
  · rw [ordV_zero.1 h1]; exact k
end Go.Proofs.YtmbeeaohidgfgaaDoor
