/- Plain: what a right graph gives. -/
import Derived.Test.YtldonhgcifhpgaaFindB
namespace Go.Proofs.Ytldonhgcifhpgaa

/-! ### What a right graph gives -/
theorem nodsE_step {p : Option Nod} {n : Nod} {r : List Nod} (h : nodsE p (n :: r) = 0) : idB n.id = true ∧ nodE n = 0 ∧ nodsE (some n) r = 0 ∧ (∀ a, p = some a → nodLt a n = true) := by
  have h1 : idB n.id = true := by
    cases h1 : idB n.id with
    | true => rfl
    | false => unfold nodsE at h; rw [if_pos h1] at h; cases h
  have key : ∀ b : Bool, (if b = true then (7 : Int) else if nodE n = 0 then nodsE (some n) r else nodE n) = 0 → b = false ∧ nodE n = 0 ∧ nodsE (some n) r = 0 := by
    intro b hb
    cases b with
    | true => cases hb
    | false =>
      simp only [Bool.false_eq_true, if_false] at hb
      by_cases h3 : nodE n = 0
      · rw [if_pos h3] at hb; exact ⟨rfl, h3, hb⟩
      · rw [if_neg h3] at hb; exact absurd hb h3
  have hid : ¬ (idB n.id = false) := by simp [h1]
  cases p with
  | none =>
    unfold nodsE at h
    rw [if_neg hid] at h
    obtain ⟨_, k2, k3⟩ := key false h
    exact ⟨h1, k2, k3, fun a ha => by cases ha⟩
  | some q =>
    unfold nodsE at h
    rw [if_neg hid] at h
    obtain ⟨k1, k2, k3⟩ := key (decide (n.id ≤ q.id)) h
    refine ⟨h1, k2, k3, fun a ha => ?_⟩
    cases ha
    unfold nodLt
    simpa using k1
theorem nodsE_zero : ∀ {l : List Nod} {p : Option Nod}, nodsE p l = 0 → (∀ n ∈ l, idB n.id = true ∧ nodE n = 0) ∧ chain nodLt l = true ∧ (∀ a b, p = some a → l.head? = some b → nodLt a b = true)
  | [], p, _ => ⟨by simp, rfl, by simp⟩
  | n :: r, p, h => by
    obtain ⟨s1, s2, s3, s4⟩ := nodsE_step h
    obtain ⟨i1, i2, i3⟩ := nodsE_zero s3
    refine ⟨?_, ?_, ?_⟩
    · intro m hm
      rcases List.mem_cons.1 hm with rfl | hm
      · exact ⟨s1, s2⟩
      · exact i1 m hm
    · cases r with
      | nil => rfl
      | cons b r => simp only [chain, Bool.and_eq_true]; exact ⟨i3 n b rfl rfl, i2⟩
    · intro a b ha hb
      simp at hb
      subst hb
      exact s4 a ha
theorem grf_ok {g : Grf} (h : grfE g = 0) : g.nodes.length ≤ 60 ∧ g.ties.length ≤ 120 ∧ chain nodLt g.nodes = true ∧ ∀ n ∈ g.nodes, idB n.id = true ∧ nodE n = 0 := by
  unfold grfE at h
  by_cases h1 : 60 < g.nodes.length ∨ 120 < g.ties.length
  · rw [if_pos h1] at h; cases h
  rw [if_neg h1] at h
  by_cases h2 : nodsE none g.nodes = 0
  · obtain ⟨i1, i2, _⟩ := nodsE_zero h2
    exact ⟨by omega, by omega, i2, i1⟩
  · rw [if_neg h2] at h; exact absurd h h2

theorem fhas_some' {l : List Nod} {id : Int} (h : fhas l id = true) : ∃ n, l[fpos l id]? = some n := by
  unfold fhas eqAt at h
  cases hd : l[fpos l id]? with
  | none => rw [hd] at h; simp at h
  | some d => exact ⟨d, rfl⟩
end Go.Proofs.Ytldonhgcifhpgaa
