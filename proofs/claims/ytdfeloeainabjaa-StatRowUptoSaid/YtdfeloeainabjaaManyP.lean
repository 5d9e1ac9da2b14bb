/- Plain: a row of nodes and ties is right, if it is not too long. -/
import Derived.Test.YtdfeloeainabjaaMany
namespace Go.Proofs.Ytdfeloeainabjaa

theorem name_a : nameE ⟨#[97]⟩ = 0 := by decide +kernel
theorem name_k : nameE ⟨#[107]⟩ = 0 := by decide +kernel
theorem name_p : nameE ⟨#[112]⟩ = 0 := by decide +kernel
theorem idB_of {n : Int} (h1 : 1 ≤ n) (h2 : n ≤ 1000) : idB n = true := by unfold idB; simp [h1, h2]
theorem val_int {n : Int} (h1 : -1000000 ≤ n) (h2 : n ≤ 1000000) : valE ⟨1, n, .empty⟩ = 0 := by
  unfold valE
  rw [if_pos (.inl rfl), if_neg (by simp [valLo, valHi]; omega), if_neg (by simp), if_neg]
  have : (ByteArray.empty).data.toList.any strC = false := by decide +kernel
  have h2 : (ByteArray.empty).toList.isEmpty = true := by decide +kernel
  simp [this]
theorem manyNod_ok {i : Nat} (h : i < 1000) : nodE (manyNod i) = 0 := by
  have h1 : idB ((i : Int) + 1) = true := idB_of (by omega) (by omega)
  have h4 : prpE ⟨⟨#[107]⟩, ⟨1, (i : Int) + 1, .empty⟩⟩ = 0 := by unfold prpE; rw [if_pos name_k, val_int (by omega) (by omega)]
  have h5 : recE [⟨⟨#[107]⟩, ⟨1, (i : Int) + 1, .empty⟩⟩] = 0 := by
    unfold recE
    rw [if_neg (by simp)]
    simp [firstE, h4, chain]
  unfold nodE manyNod
  simp [h1, name_a, h5]
theorem manyTie_ok {i : Nat} (h : i < 999) : tieE (manyTie i) = 0 := by
  have h1 : idB ((i : Int) + 1) = true := idB_of (by omega) (by omega)
  have h2 : idB ((i : Int) + 2) = true := idB_of (by omega) (by omega)
  unfold tieE manyTie
  simp [name_p, h1, h2]
theorem nodsE_cons (p : Option Nod) (n : Nod) (r : List Nod) : nodsE p (n :: r) = if idB n.id = false then 1 else if (match p with | some q => decide (n.id ≤ q.id) | none => false) then 7 else if nodE n = 0 then nodsE (some n) r else nodE n := by cases p <;> rfl
theorem tiesE_cons (p : Option Tie) (t : Tie) (r : List Tie) : tiesE p (t :: r) = if tieE t = 0 then (if (match p with | some q => decide (0 ≤ tieO q t) | none => false) then 7 else tiesE (some t) r) else tieE t := by cases p <;> rfl
theorem nods_many : ∀ (f k : Nat) (p : Option Nod), (∀ q, p = some q → q.id ≤ k) → k + f ≤ 1000 → nodsE p ((List.range' k f).map manyNod) = 0
  | 0, _, _, _, _ => rfl
  | f + 1, k, p, hp, hk => by
    rw [List.range'_succ, List.map_cons, nodsE_cons]
    have h1 : idB (manyNod k).id = true := idB_of (by simp only [manyNod]; omega) (by simp only [manyNod]; omega)
    rw [h1, if_neg (by simp), if_pos (manyNod_ok (by omega))]
    have ih := nods_many f (k + 1) (some (manyNod k)) (fun q hq => by injection hq with e; subst e; simp [manyNod]) (by omega)
    rw [ih]
    cases p with
    | none => rfl
    | some q =>
      have := hp q rfl
      show (if decide ((manyNod k).id ≤ q.id) = true then (7 : Int) else 0) = 0
      rw [if_neg]
      intro h
      have h2 := of_decide_eq_true h
      simp only [manyNod] at h2
      omega
theorem ties_many : ∀ (f k : Nat) (p : Option Tie), (∀ q, p = some q → ∃ j, j < k ∧ q = manyTie j) → k + f ≤ 999 → tiesE p ((List.range' k f).map manyTie) = 0
  | 0, _, _, _, _ => rfl
  | f + 1, k, p, hp, hk => by
    rw [List.range'_succ, List.map_cons, tiesE_cons, if_pos (manyTie_ok (by omega))]
    have ih := ties_many f (k + 1) (some (manyTie k)) (fun q hq => by injection hq with e; subst e; exact ⟨k, by omega, rfl⟩) (by omega)
    rw [ih]
    cases p with
    | none => rfl
    | some q =>
      obtain ⟨j, hj, rfl⟩ := hp q rfl
      have h1 : cmpS ⟨#[112]⟩ ⟨#[112]⟩ = 0 := by decide +kernel
      have h3 : cmpI ((j : Int) + 1) ((k : Int) + 1) = -1 := by unfold cmpI; rw [if_pos (by omega)]
      show (if decide (0 ≤ tieO (manyTie j) (manyTie k)) = true then (7 : Int) else 0) = 0
      rw [if_neg]
      simp [tieO, manyTie, orI, h1, h3]
theorem many_ok {n t : Nat} (hn : n ≤ 60) (ht : t ≤ 120) : grfE (manyG n t) = 0 := by
  unfold grfE
  have h1 := nods_many n 0 none (fun q hq => by cases hq) (by omega)
  have h2 := ties_many t 0 none (fun q hq => by cases hq) (by omega)
  rw [← List.range_eq_range'] at h1 h2
  rw [if_neg (by simp [manyG]; omega)]
  show (if nodsE none ((List.range n).map manyNod) = 0 then tiesE none ((List.range t).map manyTie) else _) = 0
  rw [h1, if_pos rfl, h2]
theorem many_full {n t : Nat} (h : 60 < n ∨ 120 < t) : grfE (manyG n t) = 4 := by
  unfold grfE
  rw [if_pos (by simpa [manyG] using h)]
end Go.Proofs.Ytdfeloeainabjaa
