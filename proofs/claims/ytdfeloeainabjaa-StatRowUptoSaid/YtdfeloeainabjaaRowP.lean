/- Plain: along a row of nodes: how far it is; all hangs together; cut in two there are two parts. -/
import Derived.Test.YtdfeloeainabjaaFarD
import Derived.Test.YtdfeloeainabjaaFarR
import Derived.Test.YtdfeloeainabjaaManyP
import Derived.Test.YtdfeloeainabjaaDeltaP
namespace Go.Proofs.Ytdfeloeainabjaa

/-- A row of n nodes, each tied to the next one, but not node c. -/
structure IsRow (g : Grf) (n c : Nat) : Prop where
  len : g.nodes.length = n
  id : ∀ k, k < n → idAt g.nodes k = (k : Int) + 1
  ch : chain nodLt g.nodes = true
  ad : ∀ a b, adj g a b ↔ a < n ∧ b < n ∧ ((b = a + 1 ∧ a ≠ c) ∨ (a = b + 1 ∧ b ≠ c))
theorem IsRow.up {g : Grf} {n c : Nat} (h : IsRow g n c) : ∀ (d a : Nat), a + d < n → (∀ m, a ≤ m → m < a + d → m ≠ c) → Conn g a (a + d)
  | 0, a, _, _ => .refl
  | d + 1, a, hn, hc => .step (h.up d a (by omega) (fun m h1 h2 => hc m h1 (by omega))) ((h.ad _ _).2 ⟨by omega, by omega, .inl ⟨by omega, hc _ (by omega) (by omega)⟩⟩)
theorem IsRow.side {g : Grf} {n c : Nat} (h : IsRow g n c) {a b : Nat} (hc : Conn g a b) : a ≤ c ↔ b ≤ c := by
  induction hc with
  | refl => exact Iff.rfl
  | step _ h2 ih =>
    obtain ⟨_, _, h3⟩ := (h.ad _ _).1 h2
    omega
theorem IsRow.conn {g : Grf} {n c : Nat} (h : IsRow g n c) {a b : Nat} (ha : a < n) (hb : b < n) : Conn g a b ↔ (a ≤ c ↔ b ≤ c) := by
  refine ⟨h.side, fun hs => ?_⟩
  rcases Nat.le_total a b with hab | hab
  · have := h.up (b - a) a (by omega) (fun m h1 h2 e => by omega)
    rwa [show a + (b - a) = b by omega] at this
  · have := h.up (a - b) b (by omega) (fun m h1 h2 e => by omega)
    rw [show b + (a - b) = a by omega] at this
    exact this.symm
def gap (f k : Nat) : Int := if k ≤ f then (f : Int) - k else (k : Int) - f
theorem IsRow.dist {g : Grf} {n c : Nat} (h : IsRow g n c) (hc : n ≤ c + 1) {f : Nat} (hf : f < n) : Dist g f (gap f) := by
  refine ⟨by unfold gap; simp, fun k => by unfold gap; split <;> omega, fun a b hab => ?_, fun k hk _ hkf => ?_⟩
  · obtain ⟨h1, h2, h3⟩ := (h.ad _ _).1 hab
    unfold gap
    split <;> split <;> omega
  · rw [h.len] at hk
    by_cases hlt : k < f
    · exact ⟨k + 1, (h.conn hf (by omega)).2 (by omega), (h.ad _ _).2 ⟨by omega, by omega, .inr ⟨rfl, by omega⟩⟩, by unfold gap; rw [if_pos (by omega), if_pos (by omega)]; omega⟩
    · obtain ⟨m, rfl⟩ : ∃ m, k = m + 1 := ⟨k - 1, by omega⟩
      refine ⟨m, (h.conn hf (by omega)).2 (by omega), (h.ad _ _).2 ⟨by omega, by omega, .inl ⟨rfl, by omega⟩⟩, ?_⟩
      unfold gap
      split <;> split <;> omega
theorem IsRow.far {g : Grf} {n c : Nat} (h : IsRow g n c) (hc : n ≤ c + 1) {f k : Nat} (hf : f < n) (hk : k < n) : (farI g f).getD k 0 = gap f k :=
  far_dist h.ch (by rw [h.len]; exact hf) (h.dist hc hf) (by rw [h.len]; exact hk) ((h.conn hf hk).2 (by omega))
theorem IsRow.rch {g : Grf} {n c : Nat} (h : IsRow g n c) {a b : Nat} (ha : a < n) (hb : b < n) : rch g a b = true ↔ (a ≤ c ↔ b ≤ c) := by
  rw [rch_conn h.ch (by rw [h.len]; exact ha) (by rw [h.len]; exact hb)]; exact h.conn ha hb
theorem parts_any1 {g : Grf} (hch : chain nodLt g.nodes = true) {k : Nat} (hk : k < g.nodes.length) (js : List Nat) : (js.map (partOf g)).any (fun l => l.any fun y => idAt g.nodes k == y) = cov g js k := by
  rw [List.any_map]
  unfold cov
  congr 1
  funext j
  exact partOf_any hch hk
theorem parts_skip {g : Grf} (hch : chain nodLt g.nodes = true) (js : List Nat) (f2 : Nat) : ∀ (f1 k : Nat), k + f1 ≤ g.nodes.length → (∀ m, k ≤ m → m < k + f1 → cov g js m = true) → partsFrom g k (f1 + f2) (js.map (partOf g)) = partsFrom g (k + f1) f2 (js.map (partOf g))
  | 0, k, _, _ => by rw [Nat.zero_add, Nat.add_zero]
  | f1 + 1, k, hk, hc => by
    rw [show f1 + 1 + f2 = (f1 + f2) + 1 by omega, partsFrom, parts_any1 hch (by omega), hc k (Nat.le_refl _) (by omega), if_pos rfl, parts_skip hch js f2 f1 (k + 1) (by omega) (fun m h1 h2 => hc m (by omega) (by omega))]
    congr 1
    omega
theorem parts_take {g : Grf} (hch : chain nodLt g.nodes = true) {js : List Nat} {f k : Nat} (hk : k < g.nodes.length) (hc : cov g js k = false) : partsFrom g k (f + 1) (js.map (partOf g)) = partsFrom g (k + 1) f ((js ++ [k]).map (partOf g)) := by
  rw [partsFrom, parts_any1 hch hk, hc, if_neg (by simp), List.map_append]; rfl
theorem IsRow.whole {g : Grf} {n c : Nat} (h : IsRow g n c) (h0 : 0 < n) (hc : n ≤ c + 1) : partsI g = [partOf g 0] := by
  have hl := h.len
  have hcov : ∀ m, m < n → cov g [0] m = true := fun m hm => by
    unfold cov
    simp only [List.any_cons, List.any_nil, Bool.or_false]
    exact (h.rch h0 hm).2 (by omega)
  obtain ⟨m, hm⟩ : ∃ m, n = m + 1 := ⟨n - 1, by omega⟩
  unfold partsI
  rw [hl, hm, show ([] : List (List Int)) = ([] : List Nat).map (partOf g) from rfl, parts_take h.ch (by omega) rfl]
  have := parts_skip h.ch [0] 0 m 1 (by omega) (fun k h1 h2 => hcov k (by omega))
  rw [Nat.add_zero] at this
  rw [List.nil_append, Nat.zero_add, this]
  rfl
theorem countP_lt : ∀ (n c : Nat), (List.range n).countP (fun k => decide (k < c)) = min n c
  | 0, c => by simp
  | n + 1, c => by
    rw [List.range_succ, List.countP_append, countP_lt n c]
    simp only [List.countP_cons, List.countP_nil, Nat.zero_add]
    by_cases h : n < c
    · simp [h]; omega
    · simp [h]; omega
theorem IsRow.two {g : Grf} {n c : Nat} (h : IsRow g n c) (hc : c + 1 < n) : partsI g = [partOf g 0, partOf g (c + 1)] ∧ (partOf g 0).length = c + 1 ∧ (partOf g (c + 1)).any (fun y => y == (n : Int)) = true := by
  have hl := h.len
  refine ⟨?_, ?_, ?_⟩
  · have hcov : ∀ m, m < c + 1 → cov g [0] m = true := fun m hm => by
      unfold cov
      simp only [List.any_cons, List.any_nil, Bool.or_false]
      exact (h.rch (by omega) (by omega)).2 (by omega)
    have hcov1 : cov g [0] (c + 1) = false := by
      unfold cov
      simp only [List.any_cons, List.any_nil, Bool.or_false]
      cases hq : Go.Proofs.Ytdfeloeainabjaa.rch g 0 (c + 1) with
      | false => rfl
      | true => have := (h.rch (by omega) hc).1 hq; omega
    have hcov2 : ∀ m, c + 1 ≤ m → m < n → cov g [0, c + 1] m = true := fun m h1 h2 => by
      unfold cov
      simp only [List.any_cons, List.any_nil, Bool.or_false]
      rw [(h.rch hc h2).2 (by omega), Bool.or_true]
    obtain ⟨m, hm⟩ : ∃ m, n = (c + (m + 1)) + 1 := ⟨n - c - 2, by omega⟩
    unfold partsI
    rw [hl, hm, show ([] : List (List Int)) = ([] : List Nat).map (partOf g) from rfl, parts_take h.ch (by omega) rfl, List.nil_append, Nat.zero_add,
      parts_skip h.ch [0] (m + 1) c 1 (by omega) (fun k h1 h2 => hcov k (by omega)), Nat.add_comm 1 c, parts_take h.ch (by omega) hcov1]
    have := parts_skip h.ch [0, c + 1] 0 m (c + 1 + 1) (by omega) (fun k h1 h2 => hcov2 k (by omega) (by omega))
    exact this
  · rw [partOf_len, hl, List.countP_congr (q := fun k => decide (k < c + 1)) (fun k hk => by
      have hk := List.mem_range.1 hk
      rw [h.rch (by omega) hk]
      simp; omega), countP_lt]
    omega
  · have e := partOf_any' h.ch (j := c + 1) (k := n - 1) (by omega)
    rw [h.id (n - 1) (by omega), show ((n - 1 : Nat) : Int) + 1 = (n : Int) by omega] at e
    rw [e]
    exact (h.rch hc (by omega)).2 (by omega)

/-! ### The row itself -/
theorem many_id {n t k : Nat} (hk : k < n) : idAt (manyG n t).nodes k = (k : Int) + 1 := by
  unfold idAt manyG
  simp [hk, manyNod]
theorem many_adj {n c : Nat} {g : Grf} (hg : g.nodes = (manyG n (n - 1)).nodes) (ht : ∀ t, t ∈ g.ties ↔ ∃ i, i < n - 1 ∧ i ≠ c ∧ t = manyTie i) (a b : Nat) : adj g a b ↔ a < n ∧ b < n ∧ ((b = a + 1 ∧ a ≠ c) ∨ (a = b + 1 ∧ b ≠ c)) := by
  have hl : g.nodes.length = n := by rw [hg]; simp [manyG]
  unfold adj
  rw [hl]
  constructor
  · rintro ⟨ha, hb, t, htm, e, he, h1, h2⟩
    obtain ⟨i, hi, hic, rfl⟩ := (ht t).1 htm
    rw [hg, many_id ha] at h1
    rw [hg, many_id hb] at h2
    refine ⟨ha, hb, ?_⟩
    simp only [tieEnds, manyTie, List.mem_cons, List.not_mem_nil, or_false] at he
    rcases he with rfl | rfl
    · left; simp only at h1 h2; omega
    · right; simp only at h1 h2; omega
  · rintro ⟨ha, hb, h3 | h3⟩
    · refine ⟨ha, hb, manyTie a, (ht _).2 ⟨a, by omega, h3.2, rfl⟩, ((a : Int) + 1, (a : Int) + 2), by simp [tieEnds, manyTie], ?_, ?_⟩
      · rw [hg, many_id ha]
      · rw [hg, many_id hb]; show (a : Int) + 2 = _; omega
    · refine ⟨ha, hb, manyTie b, (ht _).2 ⟨b, by omega, h3.2, rfl⟩, ((b : Int) + 2, (b : Int) + 1), by simp [tieEnds, manyTie], ?_, ?_⟩
      · rw [hg, many_id ha]; show (b : Int) + 2 = _; omega
      · rw [hg, many_id hb]
theorem row_whole {n : Nat} (hn : n ≤ 60) : IsRow (manyG n (n - 1)) n n :=
  ⟨by simp [manyG], fun k hk => many_id hk, (grf_ok (many_ok hn (by omega))).2.2.1, many_adj rfl (fun t => by
    unfold manyG
    simp only [List.mem_map, List.mem_range]
    constructor
    · rintro ⟨i, hi, rfl⟩; exact ⟨i, hi, by omega, rfl⟩
    · rintro ⟨i, hi, _, rfl⟩; exact ⟨i, hi, rfl⟩)⟩
def pTie (c : Nat) : Tie := manyTie c
theorem tpos_many : ∀ n, n < 51 → ∀ c, c < n - 1 → tpos (manyG n (n - 1)).ties (manyTie c) = c ∧ thas (manyG n (n - 1)).ties (manyTie c) = true := by decide +kernel
def cutRow (n c : Nat) : Grf := ⟨(manyG n (n - 1)).nodes, (manyG n (n - 1)).ties.take c ++ (manyG n (n - 1)).ties.drop (c + 1)⟩
theorem cut_mem {n c : Nat} (hc : c < n - 1) (t : Tie) : t ∈ (cutRow n c).ties ↔ ∃ i, i < n - 1 ∧ i ≠ c ∧ t = manyTie i := by
  unfold cutRow manyG
  simp only [List.mem_append, ← List.map_take, ← List.map_drop, List.mem_map]
  constructor
  · rintro (⟨i, hi, rfl⟩ | ⟨i, hi, rfl⟩)
    · rw [List.take_range, List.mem_range] at hi
      exact ⟨i, by omega, by omega, rfl⟩
    · rw [List.range_eq_range', List.drop_range', List.mem_range'_1] at hi
      exact ⟨i, by omega, by omega, rfl⟩
  · rintro ⟨i, hi, hic, rfl⟩
    rcases Nat.lt_or_ge i c with h | h
    · exact .inl ⟨i, by rw [List.take_range, List.mem_range]; omega, rfl⟩
    · exact .inr ⟨i, by rw [List.range_eq_range', List.drop_range', List.mem_range'_1]; omega, rfl⟩
theorem row_cut {n c : Nat} (hn : n ≤ 60) (hc : c < n - 1) : IsRow (cutRow n c) n c :=
  ⟨by simp [cutRow, manyG], fun k hk => many_id (t := n - 1) hk, (grf_ok (many_ok hn (by omega : n - 1 ≤ 120))).2.2.1, many_adj rfl (cut_mem hc)⟩
theorem tiesE_sub : ∀ {l' l : List Tie} (_ : l'.Sublist l) {p q : Option Tie}, (∀ a, p = some a → q = some a ∨ ∃ b, q = some b ∧ tieO a b < 0) → tiesE q l = 0 → tiesE p l' = 0
  | _, _, .slnil, p, q, _, _ => by cases p <;> rfl
  | l', _, .cons (l₂ := l) t hs, p, q, hp, h => by
    obtain ⟨_, s2, s3⟩ := tiesE_step h
    refine tiesE_sub hs (p := p) (q := some t) (fun a ha => .inr ⟨t, rfl, ?_⟩) s2
    rcases hp a ha with hq | ⟨b, hq, hab⟩
    · have := s3 a hq; unfold tieLt at this; exact of_decide_eq_true this
    · have := s3 b hq; unfold tieLt at this; exact tieO_trans hab (of_decide_eq_true this)
  | _, _, .cons_cons (l₁ := l') (l₂ := l) t hs, p, q, hp, h => by
    obtain ⟨s1, s2, s3⟩ := tiesE_step h
    have hlt : ∀ a, p = some a → tieO a t < 0 := fun a ha => by
      rcases hp a ha with hq | ⟨b, hq, hab⟩
      · have := s3 a hq; unfold tieLt at this; exact of_decide_eq_true this
      · have := s3 b hq; unfold tieLt at this; exact tieO_trans hab (of_decide_eq_true this)
    have e : tiesE p (t :: l') = if tieE t = 0 then (if (match p with | some q => decide (0 ≤ tieO q t) | none => false) then 7 else tiesE (some t) l') else tieE t := by cases p <;> rfl
    rw [e, if_pos s1]
    have ih := tiesE_sub hs (p := some t) (q := some t) (fun a ha => .inl ha) s2
    cases p with
    | none => simpa using ih
    | some a =>
      have h1 := hlt a rfl
      have h2 : decide (0 ≤ tieO a t) = false := decide_eq_false (by omega)
      show (if decide (0 ≤ tieO a t) = true then (7 : Int) else tiesE (some t) l') = 0
      rw [h2]; simpa using ih
theorem cut_ok {n c : Nat} (hn : n ≤ 60) : grfE (cutRow n c) = 0 := by
  have h0 := many_ok hn (by omega : n - 1 ≤ 120)
  obtain ⟨h1, h2⟩ := grf_parts h0
  have h3 : tiesE none (cutRow n c).ties = 0 := by
    refine tiesE_sub (l := (manyG n (n - 1)).ties) ?_ (q := none) (fun a ha => by cases ha) h2
    unfold cutRow
    rw [← List.eraseIdx_eq_take_drop_succ]
    exact List.eraseIdx_sublist _ _
  unfold grfE
  have l3 : (cutRow n c).nodes.length ≤ 60 := by simp [cutRow, manyG]; omega
  have l4 : (cutRow n c).ties.length ≤ 120 := by simp [cutRow, manyG]; omega
  rw [if_neg (by omega)]
  show (if nodsE none (manyG n (n - 1)).nodes = 0 then _ else _) = _
  rw [if_pos h1, h3]
end Go.Proofs.Ytdfeloeainabjaa
