/- Parts: AkP. -/
import Derived.Test.YtakidgndipnciaaDoorMg13
/- Plain: a path of kinds and bonds alone is right, and its text is what stands between its steps. No condition. -/
namespace Go.Proofs.YtakidgndipnciaaDoor
open Go

/-- A path of kinds and bonds alone. -/
def Short (l : List Stp) : Prop := ∀ (i : Nat) (x : Stp), l[i]? = some x → nameE x.kind = 0 ∧ x.tests = [] ∧ (i = 0 → x.bond = .empty ∧ x.back = false) ∧ (0 < i → x.bond = ⟨#[112]⟩)
theorem short_nil : Short [] := fun i x h => by simp at h
theorem short_snoc {l : List Stp} {x : Stp} (h : Short l) (h1 : nameE x.kind = 0) (h2 : x.tests = []) (h3 : l = [] → x.bond = .empty ∧ x.back = false) (h4 : l ≠ [] → x.bond = ⟨#[112]⟩) : Short (l ++ [x]) := by
  intro i y hy
  by_cases hi : i < l.length
  · rw [List.getElem?_append_left hi] at hy; exact h i y hy
  · rw [List.getElem?_append_right (by omega)] at hy
    have h0 : i = l.length := by
      by_cases h0 : i = l.length
      · exact h0
      · rw [List.getElem?_eq_none (by simp; omega)] at hy; cases hy
    rw [h0, Nat.sub_self] at hy
    injection hy with hy
    subst hy
    refine ⟨h1, h2, fun e => h3 (List.length_eq_zero_iff.1 (by omega)), fun e => h4 (fun e' => ?_)⟩
    subst e'
    simp at h0
    omega
theorem nameP : nameE ⟨#[112]⟩ = 0 := by decide +kernel
theorem firstE_nil {α : Type} (f : α → Int) (l : List α) (h : ∀ x ∈ l, f x = 0) : firstE f l = 0 := by
  induction l with
  | nil => rfl
  | cons a r ih =>
    unfold firstE
    rw [if_pos (h a List.mem_cons_self)]
    exact ih (fun x hx => h x (List.mem_cons_of_mem _ hx))
theorem short_right {l : List Stp} (h : Short l) (h6 : l.length ≤ 6) (h0 : l ≠ []) : askE l = 0 := by
  unfold askE
  rw [if_neg (fun e => h0 (List.length_eq_zero_iff.1 e)), if_neg (by omega)]
  cases l with
  | nil => exact absurd rfl h0
  | cons x r =>
    obtain ⟨a1, a2, a3, _⟩ := h 0 x rfl
    obtain ⟨b1, b2⟩ := a3 rfl
    have e1 : stpE true x = 0 := by
      unfold stpE
      rw [if_neg (fun e => e a1), if_pos rfl, if_neg (fun e => by rcases e with e | e; exact e b1; rw [b2] at e; cases e), a2]; rfl
    show (if stpE true x ≠ 0 then _ else _) = _
    rw [if_neg (fun e => e e1)]
    refine firstE_nil _ _ (fun y hy => ?_)
    obtain ⟨i, hi, rfl⟩ := List.mem_iff_getElem.1 hy
    obtain ⟨c1, c2, _, c4⟩ := h (i + 1) r[i] (by rw [List.getElem?_cons_succ, List.getElem?_eq_getElem hi])
    unfold stpE
    rw [if_neg (fun e => e c1), if_neg (by decide), c4 (by omega), if_neg (fun e => e nameP), c2]; rfl
theorem short_text {l : List Stp} {x : Stp} (h2 : x.tests = []) (h3 : l = [] → x.bond = .empty ∧ x.back = false) (h4 : l ≠ [] → x.bond = ⟨#[112]⟩) : askT (l ++ [x]) = askT l ++ ((if l = [] then [] else if x.back = true then [32, 60, 45, 112, 45, 32] else [32, 45, 112, 45, 62, 32]) ++ x.kind.data.toList) := by
  by_cases h : l = []
  · subst h
    rw [if_pos rfl]
    show stpT true x ++ [] = [] ++ ([] ++ _)
    unfold stpT
    rw [h2]; simp [tstsT]
  · rw [askT_snoc h, if_neg h]
    unfold stpT linkT
    rw [if_neg (by decide), h2, h4 h]
    cases x.back <;> simp [tstsT]
theorem short_len {l : List Stp} (h : Short l) (h6 : l.length ≤ 6) : (askT l).length ≤ 84 := by
  have hk : ∀ x ∈ l, (stpT false x).length ≤ 14 := fun x hx => by
    obtain ⟨i, hi, rfl⟩ := List.mem_iff_getElem.1 hx
    obtain ⟨c1, c2, c3, c4⟩ := h i l[i] (List.getElem?_eq_getElem hi)
    have h8 := name_len c1
    have hb : l[i].bond.data.toList.length ≤ 1 := by
      by_cases h0 : i = 0
      · rw [(c3 h0).1]; decide
      · rw [c4 (by omega)]; decide
    unfold stpT linkT
    rw [if_neg (by decide), c2]
    split <;> simp [tstsT] at * <;> omega
  have hsum : ∀ r : List Stp, (∀ x ∈ r, (stpT false x).length ≤ 14) → (r.flatMap (stpT false)).length ≤ 14 * r.length := fun r => by
    induction r with
    | nil => intro _; exact Nat.le_refl _
    | cons a r ih =>
      intro hr
      rw [List.flatMap_cons, List.length_append, List.length_cons]
      have h1 := hr a List.mem_cons_self
      have h2 := ih (fun x hx => hr x (List.mem_cons_of_mem _ hx))
      omega
  cases l with
  | nil => exact Nat.zero_le _
  | cons x r =>
    show (stpT true x ++ r.flatMap (stpT false)).length ≤ 84
    have h1 := hk x List.mem_cons_self
    have h2 := hsum r (fun y hy => hk y (List.mem_cons_of_mem _ hy))
    have h3 : (stpT true x).length ≤ (stpT false x).length := by unfold stpT; rw [if_pos rfl]; simp
    rw [List.length_append]
    rw [List.length_cons] at h6
    omega
end Go.Proofs.YtakidgndipnciaaDoor
