/- Plain: the parts of a graph: each node is in just one, and a part is what hangs together with its first node. -/
import Derived.Test.YtdfeloeainabjaaFarQ
namespace Go.Proofs.Ytdfeloeainabjaa

/-- Does k hang together with j? -/
def rch (g : Grf) (j k : Nat) : Bool := decide (0 ≤ (farI g j).getD k 0)
theorem partFrom_eq (g : Grf) (fl : List Int) : ∀ (f k : Nat) (acc : List Int), partFrom g fl k f acc = acc ++ ((List.range' k f).filter fun m => decide (0 ≤ fl.getD m 0)).map (idAt g.nodes)
  | 0, k, acc => by simp [partFrom]
  | f + 1, k, acc => by
    rw [partFrom, partFrom_eq g fl f (k + 1), List.range'_succ, List.filter_cons]
    by_cases h : 0 ≤ fl.getD k 0
    · simp only [h, if_true, decide_true, List.map_cons, List.append_assoc, List.cons_append, List.nil_append]
    · simp only [h, if_false, decide_false, Bool.false_eq_true]
theorem partOf_eq (g : Grf) (j : Nat) : partOf g j = ((List.range g.nodes.length).filter (rch g j)).map (idAt g.nodes) := by
  unfold partOf
  rw [partFrom_eq, List.nil_append, List.range_eq_range']
  rfl
theorem partOf_len (g : Grf) (j : Nat) : (partOf g j).length = (List.range g.nodes.length).countP (rch g j) := by
  rw [partOf_eq, List.length_map, List.countP_eq_length_filter]
theorem rch_conn {g : Grf} (hch : chain nodLt g.nodes = true) {j k : Nat} (hj : j < g.nodes.length) (hk : k < g.nodes.length) : rch g j k = true ↔ Conn g j k := by
  unfold rch; rw [decide_eq_true_eq]; exact far_reach hch hj hk
theorem partOf_mem {g : Grf} (hch : chain nodLt g.nodes = true) {j k : Nat} (hk : k < g.nodes.length) : idAt g.nodes k ∈ partOf g j ↔ rch g j k = true := by
  rw [partOf_eq, List.mem_map]
  constructor
  · rintro ⟨m, hm, he⟩
    rw [List.mem_filter, List.mem_range] at hm
    have := idAt_inj hch hm.1 hk he
    subst this
    exact hm.2
  · intro h
    exact ⟨k, by rw [List.mem_filter, List.mem_range]; exact ⟨hk, h⟩, rfl⟩
theorem partOf_any {g : Grf} (hch : chain nodLt g.nodes = true) {j k : Nat} (hk : k < g.nodes.length) : (partOf g j).any (fun y => idAt g.nodes k == y) = rch g j k := by
  rw [Bool.eq_iff_iff, List.any_eq_true, ← partOf_mem hch hk]
  constructor
  · rintro ⟨y, hy, he⟩
    have := eq_of_beq he
    subst this
    exact hy
  · intro h
    exact ⟨_, h, by simp⟩
theorem partOf_any' {g : Grf} (hch : chain nodLt g.nodes = true) {j k : Nat} (hk : k < g.nodes.length) : (partOf g j).any (fun y => y == idAt g.nodes k) = rch g j k := by
  rw [← partOf_any hch hk]
  congr 1
  funext y
  rw [Bool.eq_iff_iff]; simp only [beq_iff_eq]; exact ⟨Eq.symm, Eq.symm⟩

/-- Is m in one of these parts? -/
def cov (g : Grf) (js : List Nat) (m : Nat) : Bool := js.any fun j => rch g j m
theorem countP_or {p q : Nat → Bool} : ∀ (l : List Nat), (∀ m ∈ l, ¬ (p m = true ∧ q m = true)) → l.countP (fun m => p m || q m) = l.countP p + l.countP q
  | [], _ => rfl
  | a :: l, h => by
    have ih := countP_or l (fun m hm => h m (by simp [hm]))
    have h0 := h a (by simp)
    simp only [List.countP_cons, ih]
    cases hp : p a <;> cases hq : q a <;> simp [hp, hq] at h0 ⊢ <;> omega

structure PInv (g : Grf) (k : Nat) (js : List Nat) : Prop where
  small : ∀ j ∈ js, j < g.nodes.length
  sum : (js.map fun j => (partOf g j).length).sum = (List.range g.nodes.length).countP (cov g js)
  all : ∀ m, m < k → cov g js m = true
theorem PInv.step {g : Grf} (hch : chain nodLt g.nodes = true) {k : Nat} {js : List Nat} (hk : k < g.nodes.length) (h : PInv g k js) : PInv g (k + 1) (if cov g js k = true then js else js ++ [k]) := by
  by_cases hc : cov g js k = true
  · rw [if_pos hc]
    refine ⟨h.small, h.sum, fun m hm => ?_⟩
    by_cases e : m = k
    · subst e; exact hc
    · exact h.all m (by omega)
  · rw [if_neg hc]
    refine ⟨?_, ?_, ?_⟩
    · intro j hj
      rcases List.mem_append.1 hj with h1 | h1
      · exact h.small j h1
      · simp at h1; subst h1; exact hk
    · have e1 : cov g (js ++ [k]) = fun m => cov g js m || rch g k m := by funext m; simp [cov]
      rw [e1, countP_or, ← h.sum, ← partOf_len]
      · simp
      · rintro m hm ⟨h1, h2⟩
        rw [List.mem_range] at hm
        unfold cov at h1 hc
        obtain ⟨j, hj, hjm⟩ := List.any_eq_true.1 h1
        apply hc
        refine List.any_eq_true.2 ⟨j, hj, ?_⟩
        have hjl := h.small j hj
        rw [rch_conn hch hjl hk]
        exact ((rch_conn hch hjl hm).1 hjm).trans ((rch_conn hch hk hm).1 h2).symm
    · intro m hm
      by_cases e : m = k
      · subst e
        unfold cov
        rw [List.any_append]
        have : rch g m m = true := (rch_conn hch hk hk).2 .refl
        simp [this]
      · have := h.all m (by omega)
        unfold cov at this ⊢
        rw [List.any_append, this]; rfl
theorem partsFrom_js {g : Grf} (hch : chain nodLt g.nodes = true) : ∀ (f k : Nat) (js : List Nat), k + f = g.nodes.length → PInv g k js → ∃ js', partsFrom g k f (js.map (partOf g)) = js'.map (partOf g) ∧ PInv g g.nodes.length js'
  | 0, k, js, hkf, h => by
    obtain rfl : k = g.nodes.length := by omega
    exact ⟨js, rfl, h⟩
  | f + 1, k, js, hkf, h => by
    have hk : k < g.nodes.length := by omega
    have e1 : (js.map (partOf g)).any (fun l => l.any fun y => idAt g.nodes k == y) = cov g js k := by
      rw [List.any_map]
      unfold cov
      congr 1
      funext j
      exact partOf_any hch hk
    have hs := h.step hch hk
    rw [partsFrom, e1]
    by_cases hc : cov g js k = true
    · rw [if_pos hc] at hs ⊢
      exact partsFrom_js hch f (k + 1) js (by omega) hs
    · rw [if_neg hc] at hs ⊢
      have := partsFrom_js hch f (k + 1) (js ++ [k]) (by omega) hs
      simpa using this
theorem parts_js {g : Grf} (hch : chain nodLt g.nodes = true) : ∃ js, partsI g = js.map (partOf g) ∧ PInv g g.nodes.length js := by
  have h0 : PInv g 0 [] := ⟨by simp, by show 0 = List.countP (cov g []) _; exact (List.countP_eq_zero.2 (by intro m _; simp [cov])).symm, by intro m hm; omega⟩
  exact partsFrom_js hch g.nodes.length 0 [] (by omega) h0
theorem countP_all {p : Nat → Bool} : ∀ (l : List Nat), (∀ m ∈ l, p m = true) → l.countP p = l.length
  | [], _ => rfl
  | a :: l, h => by
    have ih := countP_all l (fun m hm => h m (by simp [hm]))
    simp [h a (by simp), ih]
/-- ALL OF THEM, ONCE. -/
theorem parts_sum {g : Grf} (hch : chain nodLt g.nodes = true) : ((partsI g).map List.length).sum = g.nodes.length := by
  obtain ⟨js, h1, h2⟩ := parts_js hch
  rw [h1, List.map_map]
  show (js.map fun j => (partOf g j).length).sum = _
  rw [h2.sum, countP_all _ (fun m hm => h2.all m (List.mem_range.1 hm)), List.length_range]
/-- A part: its first node, and who hangs together with it. -/
theorem parts_each {g : Grf} (hch : chain nodLt g.nodes = true) {p : List Int} (hp : p ∈ partsI g) :
    ∃ m rest, p = idAt g.nodes m :: rest ∧ m < g.nodes.length ∧ ∀ k, k < g.nodes.length → p.any (fun y => y == idAt g.nodes k) = decide (0 ≤ (farI g m).getD k 0) := by
  obtain ⟨js, h1, h2⟩ := parts_js hch
  rw [h1] at hp
  obtain ⟨j, hj, rfl⟩ := List.mem_map.1 hp
  have hjl := h2.small j hj
  have hne : idAt g.nodes j ∈ partOf g j := (partOf_mem hch hjl).2 ((rch_conn hch hjl hjl).2 .refl)
  cases hpj : partOf g j with
  | nil => rw [hpj] at hne; cases hne
  | cons a rest =>
    have ha : a ∈ partOf g j := by rw [hpj]; simp
    rw [partOf_eq, List.mem_map] at ha
    obtain ⟨m, hm, rfl⟩ := ha
    rw [List.mem_filter, List.mem_range] at hm
    refine ⟨m, rest, rfl, hm.1, fun k hk => ?_⟩
    rw [← hpj, partOf_any' hch hk]
    show rch g j k = rch g m k
    have hjm := (rch_conn hch hjl hm.1).1 hm.2
    rw [Bool.eq_iff_iff, rch_conn hch hjl hk, rch_conn hch hm.1 hk]
    exact ⟨fun h => hjm.symm.trans h, fun h => hjm.trans h⟩
theorem far_of_id {g : Grf} (h0 : grfE g = 0) {m : Nat} (hm : m < g.nodes.length) : farE g (idAt g.nodes m) = 0 ∧ farL g (idAt g.nodes m) = farI g m := by
  obtain ⟨_, _, hch, _⟩ := grf_ok h0
  obtain ⟨h1, h2⟩ := (fhas_iff hch (id := idAt g.nodes m) (k := m)).2 ⟨hm, rfl⟩
  unfold farE farL
  simp [h0, h1, h2]
end Go.Proofs.Ytdfeloeainabjaa
