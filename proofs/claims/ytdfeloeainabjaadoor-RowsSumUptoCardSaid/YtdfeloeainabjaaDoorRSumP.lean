/- Plain: what the law RowsSum asks of picked rows. -/
import Derived.Test.YtdfeloeainabjaaDoorRowsB
import Derived.Test.YtdfeloeainabjaaDoorManyP
namespace Go.Proofs.YtdfeloeainabjaaDoor

def iiW (n : Nat) : List (List Int) := (List.range n).map fun (i : Nat) => [(i : Int) + 1, (i : Int) + 1]
theorem iiW_snoc (k : Nat) : iiW (k + 1) = iiW k ++ [[(k : Int) + 1, (k : Int) + 1]] := by unfold iiW; rw [List.range_succ, List.map_append]; rfl
theorem iiW_len (n : Nat) : (iiW n).length = n := by simp [iiW]
theorem rsum_facts : ∀ n, n < 51 → ∀ a, a < 2 → pickE (manyG n 0) (iiW n) ((a : Nat) : Int) [⟨#[107]⟩] = 0 ∧ rsumR (pickR (manyG n 0) (iiW n) ((a : Nat) : Int) [⟨#[107]⟩]) ⟨#[107]⟩ = (((n * (n + 1) / 2 : Nat) : Int), 0) ∧
    (pickR (manyG n 0) (iiW n) ((a : Nat) : Int) [⟨#[107]⟩]).length = n := by decide +kernel
theorem rsum_out {n : Nat} {a : Int} (hn : n ≤ 50) (h0 : n ≠ 0) (h : a < 0 ∨ 1 < a) : pickE (manyG n 0) (iiW n) a [⟨#[107]⟩] = 1 := by
  obtain ⟨m, rfl⟩ : ∃ m, n = m + 1 := ⟨n - 1, by omega⟩
  have h1 : grfE (manyG (m + 1) 0) = 0 := many_ok (by omega) (by omega)
  have h2 : (iiW (m + 1))[0]? = some [((0 : Nat) : Int) + 1, ((0 : Nat) : Int) + 1] := by unfold iiW; simp
  have h3 : pickRowE (manyG (m + 1) 0) a [((0 : Nat) : Int) + 1, ((0 : Nat) : Int) + 1] = 1 := by unfold pickRowE; rw [if_pos (by simp; omega)]
  have h4 := firstE_hit (f := pickRowE (manyG (m + 1) 0) a) (fun j x hj => absurd hj (Nat.not_lt_zero _)) h2 (by rw [h3]; omega)
  unfold pickE
  rw [if_pos h1, if_neg (by rw [iiW_len]; omega), h4, h3, if_neg (by omega)]
end Go.Proofs.YtdfeloeainabjaaDoor
