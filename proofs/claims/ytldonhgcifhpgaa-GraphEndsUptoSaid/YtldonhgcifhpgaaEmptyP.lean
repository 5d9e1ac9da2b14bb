/- Plain: a graph of which the nodes are gone one by one. -/
import Derived.Test.YtldonhgcifhpgaaDeltaP
import Derived.Test.YtldonhgcifhpgaaDelA
namespace Go.Proofs.Ytldonhgcifhpgaa

theorem nodsE_weak {p : Option Nod} {l : List Nod} (h : nodsE p l = 0) : nodsE none l = 0 := by
  cases l with
  | nil => rfl
  | cons n r =>
    obtain ⟨h1, h2, h3, _⟩ := nodsE_step h
    have e : nodsE none (n :: r) = if idB n.id = false then 1 else if nodE n = 0 then nodsE (some n) r else nodE n := rfl
    rw [e, if_neg (by simp [h1]), if_pos h2, h3]
theorem nodsE_drop : ∀ (k : Nat) {p : Option Nod} {l : List Nod}, nodsE p l = 0 → nodsE none (l.drop k) = 0
  | 0, _, _, h => nodsE_weak h
  | k + 1, _, [], _ => rfl
  | k + 1, _, n :: r, h => nodsE_drop k (nodsE_step h).2.2.1
theorem tiesE_filter (f : Tie → Bool) : ∀ {l : List Tie} {p q : Option Tie}, (∀ a, p = some a → q = some a ∨ ∃ b, q = some b ∧ tieO a b < 0) → (p = none → True) → tiesE q l = 0 → tiesE p (l.filter f) = 0
  | [], p, q, _, _, _ => by cases p <;> rfl
  | t :: r, p, q, hp, _, h => by
    obtain ⟨s1, s2, s3⟩ := tiesE_step h
    have hlt : ∀ a, p = some a → tieO a t < 0 := fun a ha => by
      rcases hp a ha with hq | ⟨b, hq, hab⟩
      · have := s3 a hq; unfold tieLt at this; exact of_decide_eq_true this
      · have := s3 b hq; unfold tieLt at this; exact tieO_trans hab (of_decide_eq_true this)
    rw [List.filter_cons]
    by_cases hf : f t = true
    · rw [if_pos hf]
      have e : tiesE p (t :: r.filter f) = if tieE t = 0 then (if (match p with | some q => decide (0 ≤ tieO q t) | none => false) then 7 else tiesE (some t) (r.filter f)) else tieE t := by cases p <;> rfl
      rw [e, if_pos s1]
      have ih := tiesE_filter f (l := r) (p := some t) (q := some t) (fun a ha => .inl ha) (fun _ => trivial) s2
      cases p with
      | none => simpa using ih
      | some a =>
        have h1 := hlt a rfl
        have h2 : decide (0 ≤ tieO a t) = false := decide_eq_false (by omega)
        show (if decide (0 ≤ tieO a t) = true then (7 : Int) else tiesE (some t) (r.filter f)) = 0
        rw [h2]; simpa using ih
    · rw [if_neg hf]
      exact tiesE_filter f (l := r) (p := p) (q := some t) (fun a ha => .inr ⟨t, rfl, hlt a ha⟩) (fun _ => trivial) s2
def cutG (g : Grf) (k : Nat) : Grf := ⟨g.nodes.drop k, g.ties.filter fun t => !((g.nodes.take k).any fun n => touch n.id t)⟩
theorem cut_zero (g : Grf) : cutG g 0 = g := by
  unfold cutG
  have : g.ties.filter (fun t => !((g.nodes.take 0).any fun n => touch n.id t)) = g.ties := List.filter_eq_self.2 (fun a _ => by simp)
  rw [this, List.drop_zero]
theorem cut_right {g : Grf} (h : grfE g = 0) (k : Nat) : grfE (cutG g k) = 0 := by
  obtain ⟨h1, h2⟩ := grf_parts h
  obtain ⟨l1, l2, _, _⟩ := grf_ok h
  have e1 : nodsE none (cutG g k).nodes = 0 := nodsE_drop k h1
  have e2 : tiesE none (cutG g k).ties = 0 := tiesE_filter _ (q := none) (fun a ha => by cases ha) (fun _ => trivial) h2
  unfold grfE
  have l3 : (cutG g k).nodes.length ≤ 60 := by unfold cutG; simp; omega
  have l4 : (cutG g k).ties.length ≤ 120 := Nat.le_trans (List.length_filter_le _ _) l2
  rw [if_neg (by omega), e1, if_pos rfl, e2]
theorem fpos_head {l : List Nod} {n : Nod} {r : List Nod} (h : l = n :: r) : fpos l n.id = 0 ∧ fhas l n.id = true := by
  subst h
  have h0 : nodC n.id n = 0 := by unfold nodC; exact cmpI_zero.2 rfl
  have h1 : fpos (n :: r) n.id = 0 := by
    unfold fpos lowI
    rw [List.findIdx_cons]
    simp [h0]
  refine ⟨h1, ?_⟩
  unfold fhas
  rw [h1]
  unfold eqAt
  simp [h0]
theorem cut_step {g : Grf} {k : Nat} {n : Nod} (hd : g.nodes[k]? = some n) : goneG (cutG g k) n.id = cutG g (k + 1) ∧ fhas (cutG g k).nodes n.id = true := by
  have hc : (cutG g k).nodes = n :: g.nodes.drop (k + 1) := drop_cons hd
  obtain ⟨h1, h2⟩ := fpos_head hc
  refine ⟨?_, h2⟩
  unfold goneG
  rw [h1, hc]
  unfold cutG
  simp only [List.take_zero, List.nil_append, List.drop_succ_cons, List.drop_zero, List.filter_filter]
  rw [take_snoc hd]
  congr 1
  apply List.filter_congr
  intro t _
  rw [List.any_append]
  simp only [List.any_cons, List.any_nil, Bool.or_false, Bool.not_or]
  exact Bool.and_comm _ _
theorem beq_swap (a b : Int) : (a == b) = (b == a) := by
  rcases Int.decEq a b with h | h
  · rw [beq_eq_false_iff_ne.2 h, beq_eq_false_iff_ne.2 (Ne.symm h)]
  · subst h; rfl
def looseN (g : Grf) : Nat := (g.ties.filter fun t => !(fhas g.nodes t.src) && !(fhas g.nodes t.dst)).length
theorem chain_lt2 {l : List Nod} (hc : chain nodLt l = true) : ∀ {i j : Nat} {a b : Nod}, i < j → l[i]? = some a → l[j]? = some b → a.id < b.id := by
  intro i j
  induction j with
  | zero => intro a b h; omega
  | succ j ih =>
    intro a b h ha hb
    have hj : j < l.length := by have := (List.getElem?_eq_some_iff.1 hb).1; omega
    have h1 := chain_iff.1 hc j l[j] b (List.getElem?_eq_getElem hj) hb
    simp only [nodLt, decide_eq_true_eq] at h1
    rcases Nat.lt_or_ge i j with h2 | h2
    · have := ih (b := l[j]) h2 ha (List.getElem?_eq_getElem hj); omega
    · obtain rfl : i = j := by omega
      have := ha.symm.trans (List.getElem?_eq_getElem hj)
      cases this
      exact h1
theorem fhas_any {l : List Nod} (hc : chain nodLt l = true) (id : Int) : fhas l id = l.any fun n => n.id == id := by
  cases hq : fhas l id with
  | true =>
    obtain ⟨n, hn⟩ := fhas_some' hq
    have h0 : nodC id n = 0 := by
      unfold fhas eqAt at hq
      rw [hn] at hq
      simpa using hq
    have := (cmpI_zero (a := n.id) (b := id)).1 h0
    exact (List.any_eq_true.2 ⟨n, List.mem_of_getElem? hn, by simp [this]⟩).symm
  | false =>
    symm
    rw [List.any_eq_false]
    intro n hn
    obtain ⟨i, hi⟩ := List.mem_iff_getElem?.1 hn
    simp only [beq_iff_eq]
    intro he
    have h0 : nodC id n = 0 := cmpI_zero.2 he
    rcases Nat.lt_trichotomy i (fpos l id) with h | h | h
    · have := low_lt (c := nodC id) h hi; omega
    · subst h
      unfold fhas eqAt at hq
      rw [hi] at hq
      simp [h0] at hq
    · have hlt : fpos l id < l.length := by have := (List.getElem?_eq_some_iff.1 hi).1; omega
      obtain ⟨m, hm⟩ : ∃ m, l[fpos l id]? = some m := ⟨_, List.getElem?_eq_getElem hlt⟩
      have h1 := low_ge (c := nodC id) hc (nodC_mono id) (Nat.le_refl _) hm
      have h2 : ¬ nodC id m = 0 := by
        unfold fhas eqAt at hq
        rw [hm] at hq
        simpa using hq
      have h3 := chain_lt2 hc h hm hi
      unfold nodC at h0 h1 h2
      have a1 := (cmpI_zero (a := n.id) (b := id)).1 h0
      have a2 := @cmpI_neg m.id id
      have a3 := @cmpI_zero m.id id
      have a4 : ¬ m.id < id := fun h => by have := a2.2 h; omega
      have a5 : ¬ m.id = id := fun h => h2 (a3.2 h)
      omega
theorem cut_all {g : Grf} (h : grfE g = 0) : (cutG g g.nodes.length).nodes = [] ∧ (cutG g g.nodes.length).ties.length = looseN g := by
  obtain ⟨_, _, hc, _⟩ := grf_ok h
  refine ⟨by unfold cutG; simp, ?_⟩
  unfold cutG looseN
  rw [List.take_length]
  congr 1
  apply List.filter_congr
  intro t _
  rw [fhas_any hc, fhas_any hc]
  unfold touch
  simp only [← Bool.not_or]
  congr 1
  induction g.nodes with
  | nil => rfl
  | cons n r ih =>
    simp only [List.any_cons, ih]
    have e1 : (t.src == n.id) = (n.id == t.src) := beq_swap _ _
    have e2 : (t.dst == n.id) = (n.id == t.dst) := beq_swap _ _
    rw [e1, e2]
    cases (n.id == t.src) <;> cases (n.id == t.dst) <;> simp
end Go.Proofs.Ytldonhgcifhpgaa
