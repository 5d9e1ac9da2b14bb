/- Parts: FindB, Cmp, RecS, GrC, TieP. -/
import Derived.Test.YtmbeeaohidgfgaaDoorMg15
import Derived.Test.YtmbeeaohidgfgaaDoorMg13
import Derived.Test.YtmbeeaohidgfgaaDoorMg11
import Derived.Test.YtmbeeaohidgfgaaDoorMg12
/- Contracts: graph.Find and record.Find: where a node of a number, or a property of a name, stands in a list that rises. -/
namespace Go.Proofs.YtmbeeaohidgfgaaDoor
open Go.RowKit

/-! ### Nodes by number -/
def nodLt (a b : Nod) : Bool := decide (a.id < b.id)
/-! ### Properties by name -/
def prpLt (a b : Prp) : Bool := ltS a.name b.name

open Go Go.RowKit


/-! ### The order of names -/
theorem rec_ok {r : List Prp} (h : recE r = 0) : r.length ≤ 8 ∧ (∀ p ∈ r, prpE p = 0) ∧ chain prpLt r = true := by
  unfold recE at h
  by_cases h1 : 8 < r.length
  · rw [if_pos h1] at h; omega
  rw [if_neg h1] at h
  by_cases h2 : firstE prpE r = 0
  · rw [if_pos h2] at h
    cases hc : chain (fun a b : Prp => ltS a.name b.name) r with
    | true =>
      refine ⟨by omega, fun p hp => ?_, hc⟩
      have key : ∀ l : List Prp, firstE prpE l = 0 → ∀ p ∈ l, prpE p = 0 := by
        intro l
        induction l with
        | nil => intro _ p hp; simp at hp
        | cons a l ih =>
          intro h p hp
          rw [firstE] at h
          split at h
          · rename_i h0
            rcases List.mem_cons.1 hp with rfl | hp
            · exact h0
            · exact ih h p hp
          · rename_i h0; exact absurd h h0
      exact key r h2 p hp
    | false => rw [hc] at h; simp at h
  · rw [if_neg h2] at h; exact absurd h h2
/-! ### record.Get -/

/-! ### What a right graph gives -/
theorem nodsE_step {p : Option Nod} {n : Nod} {r : List Nod} (h : nodsE p (n :: r) = 0) : idB n.id = true ∧ nodE n = 0 ∧ nodsE (some n) r = 0 ∧ (∀ a, p = some a → nodLt a n = true) := by
  have h1 : idB n.id = true := by
    cases h1 : idB n.id with
    | true => rfl
    | false => unfold nodsE at h; rw [if_pos h1] at h; cases h
  have key : ∀ b : Bool, (if b = true then (7 : Int) else if nodE n = 0 then nodsE (some n) r else nodE n) = 0 → b = false ∧ nodE n = 0 ∧ nodsE (some n) r = 0 := by
    intro b hb
    cases b with
    | true => cases hb
    | false =>
      simp only [Bool.false_eq_true, if_false] at hb
      by_cases h3 : nodE n = 0
      · rw [if_pos h3] at hb; exact ⟨rfl, h3, hb⟩
      · rw [if_neg h3] at hb; exact absurd hb h3
  have hid : ¬ (idB n.id = false) := by simp [h1]
  cases p with
  | none =>
    unfold nodsE at h
    rw [if_neg hid] at h
    obtain ⟨_, k2, k3⟩ := key false h
    exact ⟨h1, k2, k3, fun a ha => by cases ha⟩
  | some q =>
    unfold nodsE at h
    rw [if_neg hid] at h
    obtain ⟨k1, k2, k3⟩ := key (decide (n.id ≤ q.id)) h
    refine ⟨h1, k2, k3, fun a ha => ?_⟩
    cases ha
    unfold nodLt
    simpa using k1
theorem nodsE_zero : ∀ {l : List Nod} {p : Option Nod}, nodsE p l = 0 → (∀ n ∈ l, idB n.id = true ∧ nodE n = 0) ∧ chain nodLt l = true ∧ (∀ a b, p = some a → l.head? = some b → nodLt a b = true)
  | [], p, _ => ⟨by simp, rfl, by simp⟩
  | n :: r, p, h => by
    obtain ⟨s1, s2, s3, s4⟩ := nodsE_step h
    obtain ⟨i1, i2, i3⟩ := nodsE_zero s3
    refine ⟨?_, ?_, ?_⟩
    · intro m hm
      rcases List.mem_cons.1 hm with rfl | hm
      · exact ⟨s1, s2⟩
      · exact i1 m hm
    · cases r with
      | nil => rfl
      | cons b r => simp only [chain, Bool.and_eq_true]; exact ⟨i3 n b rfl rfl, i2⟩
    · intro a b ha hb
      simp at hb
      subst hb
      exact s4 a ha
theorem grf_ok {g : Grf} (h : grfE g = 0) : g.nodes.length ≤ 60 ∧ g.ties.length ≤ 120 ∧ chain nodLt g.nodes = true ∧ ∀ n ∈ g.nodes, idB n.id = true ∧ nodE n = 0 := by
  unfold grfE at h
  by_cases h1 : 60 < g.nodes.length ∨ 120 < g.ties.length
  · rw [if_pos h1] at h; cases h
  rw [if_neg h1] at h
  by_cases h2 : nodsE none g.nodes = 0
  · obtain ⟨i1, i2, _⟩ := nodsE_zero h2
    exact ⟨by omega, by omega, i2, i1⟩
  · rw [if_neg h2] at h; exact absurd h h2


def tieLt (a b : Tie) : Bool := decide (tieO a b < 0)
theorem tiesE_step {p : Option Tie} {t : Tie} {r : List Tie} (h : tiesE p (t :: r) = 0) : tieE t = 0 ∧ tiesE (some t) r = 0 ∧ (∀ a, p = some a → tieLt a t = true) := by
  have e : tiesE p (t :: r) = if tieE t = 0 then (if (match p with | some q => decide (0 ≤ tieO q t) | none => false) then 7 else tiesE (some t) r) else tieE t := by cases p <;> rfl
  rw [e] at h
  by_cases h1 : tieE t = 0
  · rw [if_pos h1] at h
    cases p with
    | none => exact ⟨h1, h, fun a ha => by cases ha⟩
    | some q =>
      have h : (if decide (0 ≤ tieO q t) = true then (7 : Int) else tiesE (some t) r) = 0 := h
      by_cases h2 : 0 ≤ tieO q t
      · rw [if_pos (decide_eq_true h2)] at h; omega
      · rw [if_neg (fun x => h2 (of_decide_eq_true x))] at h
        exact ⟨h1, h, fun a ha => by cases ha; exact decide_eq_true (by omega)⟩
  · rw [if_neg h1] at h; exact absurd h h1
theorem tiesE_zero : ∀ {l : List Tie} {p : Option Tie}, tiesE p l = 0 → (∀ t ∈ l, tieE t = 0) ∧ chain tieLt l = true ∧ (∀ a b, p = some a → l.head? = some b → tieLt a b = true)
  | [], p, _ => ⟨by simp, rfl, by simp⟩
  | n :: r, p, h => by
    obtain ⟨s1, s3, s4⟩ := tiesE_step h
    obtain ⟨i1, i2, i3⟩ := tiesE_zero s3
    refine ⟨?_, ?_, ?_⟩
    · intro m hm
      rcases List.mem_cons.1 hm with rfl | hm
      · exact s1
      · exact i1 m hm
    · cases r with
      | nil => rfl
      | cons b r => simp only [chain, Bool.and_eq_true]; exact ⟨i3 n b rfl rfl, i2⟩
    · intro a b ha hb
      simp at hb
      subst hb
      exact s4 a ha
theorem grf_parts {g : Grf} (h : grfE g = 0) : nodsE none g.nodes = 0 ∧ tiesE none g.ties = 0 := by
  unfold grfE at h
  by_cases h1 : 60 < g.nodes.length ∨ 120 < g.ties.length
  · rw [if_pos h1] at h; cases h
  rw [if_neg h1] at h
  by_cases h2 : nodsE none g.nodes = 0
  · rw [if_pos h2] at h; exact ⟨h2, h⟩
  · rw [if_neg h2] at h; exact absurd h h2
theorem grf_ties {g : Grf} (h : grfE g = 0) : chain tieLt g.ties = true ∧ ∀ t ∈ g.ties, tieE t = 0 := by
  obtain ⟨i1, i2, _⟩ := tiesE_zero (grf_parts h).2
  exact ⟨i2, i1⟩
end Go.Proofs.YtmbeeaohidgfgaaDoor
