/- Parts: FarE, RgF. -/
import Derived.Test.YtfjnkidblalckaaGreatDoorMg14
import Derived.Test.YtfjnkidblalckaaGreatDoorMg06
/- Plain: the document's search, round by round, tells as far as the program's search by breadth. No condition. -/
namespace Go.Proofs.YtfjnkidblalckaaGreatDoor

def relax (d : Int) (x y : Nat) (st : List Int) : List Int := if st.getD x 0 = d ∧ st.getD y 0 < 0 then st.set y (d + 1) else st
def rTie (nodes : List Nod) (d : Int) (st : List Int) (t : Tie) : List Int :=
  if fhas nodes t.src = true ∧ fhas nodes t.dst = true then relax d (fpos nodes t.dst) (fpos nodes t.src) (relax d (fpos nodes t.src) (fpos nodes t.dst) st) else st
def rRounds (g : Grf) : Nat → List Int → List Int
  | 0, st => st
  | k + 1, st => g.ties.foldl (rTie g.nodes k) (rRounds g k st)
def rFarI (g : Grf) (i : Nat) : List Int := rRounds g g.nodes.length ((List.replicate g.nodes.length (-1)).set i 0)

/-- Ahead of a round. -/
structure RInv (g : Grf) (i : Nat) (d : Int) (st : List Int) : Prop where
  len : st.length = g.nodes.length
  zero : st.getD i 0 = 0
  rng : ∀ k, k < g.nodes.length → -1 ≤ st.getD k 0 ∧ st.getD k 0 ≤ d
  one : ∀ k, k < g.nodes.length → st.getD k 0 = 0 → k = i
  pr : ∀ k, k < g.nodes.length → 0 < st.getD k 0 → ∃ p, adj g p k ∧ 0 ≤ st.getD p 0 ∧ st.getD p 0 + 1 = st.getD k 0
  cl : ∀ a b, adj g a b → 0 ≤ st.getD a 0 → st.getD a 0 < d → 0 ≤ st.getD b 0 ∧ st.getD b 0 ≤ st.getD a 0 + 1
/-- Within a round. -/
structure MInv (g : Grf) (d : Int) (s0 st : List Int) : Prop where
  len : st.length = g.nodes.length
  old : ∀ k, k < g.nodes.length → st.getD k 0 = s0.getD k 0 ∨ (s0.getD k 0 < 0 ∧ st.getD k 0 = d + 1)
  pr : ∀ k, k < g.nodes.length → 0 < st.getD k 0 → ∃ p, adj g p k ∧ 0 ≤ st.getD p 0 ∧ st.getD p 0 + 1 = st.getD k 0
theorem MInv.relax {g : Grf} {d : Int} {s0 st : List Int} (h : MInv g d s0 st) (hd : 0 ≤ d) (h0 : ∀ k, k < g.nodes.length → s0.getD k 0 ≤ d) {x y : Nat} (ha : adj g x y) :
    MInv g d s0 (relax d x y st) ∧ (s0.getD x 0 = d → 0 ≤ (relax d x y st).getD y 0) ∧ ∀ k, k < g.nodes.length → 0 ≤ st.getD k 0 → 0 ≤ (relax d x y st).getD k 0 := by
  have ha' := ha
  obtain ⟨hx, hy, _⟩ := ha
  have hyl : y < st.length := by rw [h.len]; exact hy
  unfold Go.Proofs.YtfjnkidblalckaaGreatDoor.relax
  split
  · rename_i hc
    have hne : x ≠ y := by rintro rfl; omega
    have hgy : (st.set y (d + 1)).getD y 0 = d + 1 := getD_set_self hyl
    have hgo : ∀ k, y ≠ k → (st.set y (d + 1)).getD k 0 = st.getD k 0 := fun k hk => getD_set_other hk
    refine ⟨⟨by simpa using h.len, fun k hk => ?_, fun k hk hp => ?_⟩, fun _ => by rw [hgy]; omega, fun k hk hp => ?_⟩
    · by_cases hk2 : y = k
      · subst hk2
        rw [hgy]
        refine .inr ⟨?_, rfl⟩
        rcases h.old y hy with e | ⟨e, _⟩
        · rw [← e]; exact hc.2
        · exact e
      · rw [hgo k hk2]; exact h.old k hk
    · by_cases hk2 : y = k
      · subst hk2
        refine ⟨x, ha', ?_, ?_⟩
        · rw [hgo x (Ne.symm hne), hc.1]; exact hd
        · rw [hgo x (Ne.symm hne), hgy, hc.1]
      · rw [hgo k hk2] at hp ⊢
        obtain ⟨p, p1, p2, p3⟩ := h.pr k hk hp
        have : y ≠ p := by rintro rfl; omega
        exact ⟨p, p1, by rw [hgo p this]; exact p2, by rw [hgo p this]; exact p3⟩
    · by_cases hk2 : y = k
      · subst hk2; rw [hgy]; omega
      · rw [hgo k hk2]; exact hp
  · rename_i hc
    refine ⟨h, fun e => ?_, fun k _ hp => hp⟩
    have : st.getD x 0 = d := by
      rcases h.old x hx with e2 | ⟨e2, _⟩
      · rw [e2, e]
      · omega
    by_cases hlt : st.getD y 0 < 0
    · exact absurd ⟨this, hlt⟩ hc
    · omega
theorem tie_adj {g : Grf} (hch : chain nodLt g.nodes = true) {t : Tie} (ht : t ∈ g.ties) (h1 : fhas g.nodes t.src = true) (h2 : fhas g.nodes t.dst = true) : adj g (fpos g.nodes t.src) (fpos g.nodes t.dst) := by
  obtain ⟨a1, a2⟩ := (fhas_iff hch (id := t.src) (k := fpos g.nodes t.src)).1 ⟨h1, rfl⟩
  obtain ⟨b1, b2⟩ := (fhas_iff hch (id := t.dst) (k := fpos g.nodes t.dst)).1 ⟨h2, rfl⟩
  exact ⟨a1, b1, t, ht, (t.src, t.dst), by simp [tieEnds], a2.symm, b2.symm⟩
theorem MInv.tie {g : Grf} (hch : chain nodLt g.nodes = true) {d : Int} {s0 st : List Int} (h : MInv g d s0 st) (hd : 0 ≤ d) (h0 : ∀ k, k < g.nodes.length → s0.getD k 0 ≤ d) {t : Tie} (ht : t ∈ g.ties) :
    MInv g d s0 (rTie g.nodes d st t) ∧ (fhas g.nodes t.src = true → fhas g.nodes t.dst = true → (s0.getD (fpos g.nodes t.src) 0 = d → 0 ≤ (rTie g.nodes d st t).getD (fpos g.nodes t.dst) 0) ∧ (s0.getD (fpos g.nodes t.dst) 0 = d → 0 ≤ (rTie g.nodes d st t).getD (fpos g.nodes t.src) 0)) ∧
    ∀ k, k < g.nodes.length → 0 ≤ st.getD k 0 → 0 ≤ (rTie g.nodes d st t).getD k 0 := by
  unfold rTie
  split
  · rename_i hc
    have ha := tie_adj hch ht hc.1 hc.2
    obtain ⟨m1, m2, m3⟩ := h.relax hd h0 ha
    obtain ⟨n1, n2, n3⟩ := m1.relax hd h0 (adj_symm ha)
    exact ⟨n1, fun _ _ => ⟨fun e => n3 _ ha.2.1 (m2 e), n2⟩, fun k hk hp => n3 k hk (m3 k hk hp)⟩
  · rename_i hc
    exact ⟨h, fun e1 e2 => absurd ⟨e1, e2⟩ hc, fun _ _ hp => hp⟩
theorem MInv.ties {g : Grf} (hch : chain nodLt g.nodes = true) {d : Int} {s0 : List Int} (hd : 0 ≤ d) (h0 : ∀ k, k < g.nodes.length → s0.getD k 0 ≤ d) : ∀ (ts : List Tie) (st : List Int), (∀ t ∈ ts, t ∈ g.ties) → MInv g d s0 st →
    MInv g d s0 (ts.foldl (rTie g.nodes d) st) ∧ (∀ t ∈ ts, fhas g.nodes t.src = true → fhas g.nodes t.dst = true → (s0.getD (fpos g.nodes t.src) 0 = d → 0 ≤ (ts.foldl (rTie g.nodes d) st).getD (fpos g.nodes t.dst) 0) ∧ (s0.getD (fpos g.nodes t.dst) 0 = d → 0 ≤ (ts.foldl (rTie g.nodes d) st).getD (fpos g.nodes t.src) 0)) ∧
    ∀ k, k < g.nodes.length → 0 ≤ st.getD k 0 → 0 ≤ (ts.foldl (rTie g.nodes d) st).getD k 0
  | [], st, _, h => ⟨h, fun t ht => by simp at ht, fun _ _ hp => hp⟩
  | t :: ts, st, hts, h => by
    obtain ⟨m1, m2, m3⟩ := h.tie hch hd h0 (hts t (by simp))
    obtain ⟨n1, n2, n3⟩ := MInv.ties hch hd h0 ts (rTie g.nodes d st t) (fun t' h' => hts t' (by simp [h'])) m1
    refine ⟨n1, fun t' ht' e1 e2 => ?_, fun k hk hp => n3 k hk (m3 k hk hp)⟩
    rcases List.mem_cons.1 ht' with rfl | ht'
    · obtain ⟨q1, q2⟩ := m2 e1 e2
      have hb1 := (fhas_lt e1)
      have hb2 := (fhas_lt e2)
      exact ⟨fun e => n3 _ hb2 (q1 e), fun e => n3 _ hb1 (q2 e)⟩
    · exact n2 t' ht' e1 e2
theorem RInv.step {g : Grf} (hch : chain nodLt g.nodes = true) {i : Nat} (hi : i < g.nodes.length) {d : Int} (hd : 0 ≤ d) {st : List Int} (h : RInv g i d st) : RInv g i (d + 1) (g.ties.foldl (rTie g.nodes d) st) := by
  have hM0 : MInv g d st st := ⟨h.len, fun k _ => .inl rfl, h.pr⟩
  obtain ⟨m, dn, mono⟩ := MInv.ties hch hd (fun k hk => (h.rng k hk).2) g.ties st (fun _ h => h) hM0
  generalize g.ties.foldl (rTie g.nodes d) st = s1 at *
  have hkeep : ∀ k, k < g.nodes.length → 0 ≤ st.getD k 0 → s1.getD k 0 = st.getD k 0 := fun k hk hp => by
    rcases m.old k hk with e | ⟨e, _⟩
    · exact e
    · omega
  refine ⟨m.len, by rw [hkeep i hi (by rw [h.zero]; omega), h.zero], fun k hk => ?_, fun k hk e => ?_, m.pr, fun a b hab h1 h2 => ?_⟩
  · have := h.rng k hk
    rcases m.old k hk with e | ⟨_, e⟩ <;> omega
  · rcases m.old k hk with e2 | ⟨_, e2⟩
    · exact h.one k hk (by rw [← e2]; exact e)
    · omega
  · obtain ⟨ha, hb, t, ht, e, he, e1, e2⟩ := hab
    have hea : s1.getD a 0 = st.getD a 0 := by
      rcases m.old a ha with e | ⟨_, e⟩
      · exact e
      · omega
    rw [hea] at h1 h2 ⊢
    have hrb := h.rng b hb
    by_cases hlt : st.getD a 0 < d
    · obtain ⟨k1, k2⟩ := h.cl a b ⟨ha, hb, t, ht, e, he, e1, e2⟩ h1 hlt
      rw [hkeep b hb k1]; exact ⟨k1, k2⟩
    · have had : st.getD a 0 = d := by omega
      have fa : fhas g.nodes e.1 = true ∧ fpos g.nodes e.1 = a := (fhas_iff hch).2 ⟨ha, e1.symm⟩
      have fb : fhas g.nodes e.2 = true ∧ fpos g.nodes e.2 = b := (fhas_iff hch).2 ⟨hb, e2.symm⟩
      have h0b : 0 ≤ s1.getD b 0 := by
        simp only [tieEnds, List.mem_cons, List.not_mem_nil, or_false] at he
        rcases he with rfl | rfl
        · have := (dn t ht fa.1 fb.1).1
          rw [fa.2, fb.2] at this
          exact this had
        · have := (dn t ht fb.1 fa.1).2
          rw [fa.2, fb.2] at this
          exact this had
      refine ⟨h0b, ?_⟩
      rcases m.old b hb with e | ⟨_, e⟩ <;> omega
theorem RInv.rounds {g : Grf} (hch : chain nodLt g.nodes = true) {i : Nat} (hi : i < g.nodes.length) {st : List Int} (h : RInv g i 0 st) : ∀ (k : Nat), RInv g i k (rRounds g k st)
  | 0 => h
  | k + 1 => by
    have := (RInv.rounds hch hi h k).step hch hi (by omega)
    unfold rRounds
    simpa using this
theorem RInv.start {g : Grf} {i : Nat} (hi : i < g.nodes.length) : RInv g i 0 ((List.replicate g.nodes.length (-1)).set i 0) := by
  have hs : ((List.replicate g.nodes.length (-1 : Int)).set i 0).getD i 0 = 0 := getD_set_self (by simpa using hi)
  have ho : ∀ k, k < g.nodes.length → i ≠ k → ((List.replicate g.nodes.length (-1 : Int)).set i 0).getD k 0 = -1 := fun k hk hn => by
    rw [getD_set_other hn]; simp [List.getD, hk]
  refine ⟨by simp, hs, fun k hk => ?_, fun k hk e => ?_, fun k hk hp => ?_, fun a b hab h1 h2 => by omega⟩
  · by_cases hn : i = k
    · subst hn; rw [hs]; omega
    · rw [ho k hk hn]; omega
  · by_cases hn : i = k
    · exact hn.symm
    · rw [ho k hk hn] at e; omega
  · by_cases hn : i = k
    · subst hn; rw [hs] at hp; omega
    · rw [ho k hk hn] at hp; omega
theorem count_split (j : Int) : ∀ (l : List Int), 0 ≤ j → l.countP (fun x => decide (0 ≤ x ∧ x ≤ j + 1)) = l.countP (fun x => decide (0 ≤ x ∧ x ≤ j)) + l.countP (fun x => decide (x = j + 1))
  | [], _ => rfl
  | a :: l, hj => by
    have ih := count_split j l hj
    rw [List.countP_cons, List.countP_cons, List.countP_cons, ih]
    by_cases h1 : a = j + 1
    · have k1 : decide (0 ≤ a ∧ a ≤ j + 1) = true := decide_eq_true (by omega)
      have k2 : decide (0 ≤ a ∧ a ≤ j) = false := decide_eq_false (by omega)
      have k3 : decide (a = j + 1) = true := decide_eq_true h1
      simp only [k1, k2, k3, if_true, Bool.false_eq_true, if_false]
      omega
    · have k3 : decide (a = j + 1) = false := decide_eq_false h1
      by_cases h2 : 0 ≤ a ∧ a ≤ j
      · have k1 : decide (0 ≤ a ∧ a ≤ j + 1) = true := decide_eq_true (by omega)
        have k2 : decide (0 ≤ a ∧ a ≤ j) = true := decide_eq_true h2
        simp only [k1, k2, k3, if_true, Bool.false_eq_true, if_false]
        omega
      · have k1 : decide (0 ≤ a ∧ a ≤ j + 1) = false := decide_eq_false (by omega)
        have k2 : decide (0 ≤ a ∧ a ≤ j) = false := decide_eq_false h2
        simp only [k1, k2, k3, Bool.false_eq_true, if_false]
        omega
theorem count_all {l : List Int} : ∀ (v : Nat), (∀ j : Nat, j ≤ v → (j : Int) ∈ l) → v + 1 ≤ l.countP (fun x => decide (0 ≤ x ∧ x ≤ (v : Int)))
  | 0, h => by
    have := h 0 (Nat.le_refl _)
    have : 0 < l.countP (fun x => decide (0 ≤ x ∧ x ≤ ((0 : Nat) : Int))) := List.countP_pos_iff.2 ⟨_, this, by simp⟩
    omega
  | v + 1, h => by
    have ih := count_all v fun j hj => h j (by omega)
    have h1 : 0 < l.countP (fun x => decide (x = (v : Int) + 1)) := List.countP_pos_iff.2 ⟨_, h (v + 1) (Nat.le_refl _), by simp⟩
    have h2 := count_split (v : Int) l (by omega)
    have e : ((v + 1 : Nat) : Int) = (v : Int) + 1 := by omega
    rw [e, h2]
    omega
theorem RInv.low {g : Grf} {i : Nat} {d : Int} (hi : i < g.nodes.length) {st : List Int} (h : RInv g i d st) : ∀ (v : Nat) (k : Nat), k < g.nodes.length → st.getD k 0 = v → ∀ j : Nat, j ≤ v → ∃ p, p < g.nodes.length ∧ st.getD p 0 = (j : Int)
  | 0, k, hk, e, j, hj => ⟨k, hk, by rw [e]; omega⟩
  | v + 1, k, hk, e, j, hj => by
    by_cases hjv : j = v + 1
    · exact ⟨k, hk, by rw [e, hjv]⟩
    · obtain ⟨p, p1, p2, p3⟩ := h.pr k hk (by rw [e]; omega)
      exact RInv.low hi h v p p1.1 (by omega) j (by omega)
theorem RInv.lt {g : Grf} {i : Nat} {d : Int} (hi : i < g.nodes.length) {st : List Int} (h : RInv g i d st) {k : Nat} (hk : k < g.nodes.length) (hp : 0 ≤ st.getD k 0) : st.getD k 0 < g.nodes.length := by
  obtain ⟨v, hv⟩ : ∃ v : Nat, st.getD k 0 = v := ⟨(st.getD k 0).toNat, by omega⟩
  have hl := h.low hi v k hk hv
  have hc := count_all (l := st) v fun j hj => by
    obtain ⟨p, p1, p2⟩ := hl j hj
    rw [← p2]
    exact mem_getD (by rw [h.len]; exact p1)
  have := List.countP_le_length (p := fun x => decide (0 ≤ x ∧ x ≤ (v : Int))) (l := st)
  rw [h.len] at this
  omega
theorem rfar_conn {g : Grf} {i : Nat} (hi : i < g.nodes.length) {st : List Int} (h : RInv g i g.nodes.length st) {k : Nat} (hk : k < g.nodes.length) : 0 ≤ st.getD k 0 ↔ Conn g i k := by
  constructor
  · intro hp
    obtain ⟨v, hv⟩ : ∃ v : Nat, st.getD k 0 = v := ⟨(st.getD k 0).toNat, by omega⟩
    clear hp
    induction v generalizing k with
    | zero => rw [h.one k hk (by rw [hv]; rfl)]; exact .refl
    | succ v ih =>
      obtain ⟨p, p1, p2, p3⟩ := h.pr k hk (by rw [hv]; omega)
      exact .step (ih p1.1 (by omega)) p1
  · intro hc
    have : k < g.nodes.length ∧ 0 ≤ st.getD k 0 := by
      clear hk
      induction hc with
      | refl => exact ⟨hi, by rw [h.zero]; omega⟩
      | step _ ha ih => exact ⟨ha.2.1, (h.cl _ _ ha ih.2 (h.lt hi ih.1 ih.2)).1⟩
    exact this.2
theorem rfar_dist {g : Grf} {i : Nat} (hi : i < g.nodes.length) {st : List Int} (h : RInv g i g.nodes.length st) : Dist g i (fun k => if k < g.nodes.length ∧ 0 ≤ st.getD k 0 then st.getD k 0 else 0) := by
  refine ⟨?_, fun k => ?_, fun a b hab => ?_, fun k hk hc hne => ?_⟩
  · show (if i < g.nodes.length ∧ 0 ≤ st.getD i 0 then st.getD i 0 else 0) = 0
    rw [h.zero]; split <;> rfl
  · show 0 ≤ (if k < g.nodes.length ∧ 0 ≤ st.getD k 0 then st.getD k 0 else 0)
    split
    · rename_i h1; exact h1.2
    · omega
  · show (if b < g.nodes.length ∧ 0 ≤ st.getD b 0 then st.getD b 0 else 0) ≤ (if a < g.nodes.length ∧ 0 ≤ st.getD a 0 then st.getD a 0 else 0) + 1
    by_cases ha : 0 ≤ st.getD a 0
    · have := h.cl a b hab ha (h.lt hi hab.1 ha)
      rw [if_pos ⟨hab.2.1, this.1⟩, if_pos ⟨hab.1, ha⟩]
      exact this.2
    · have hb : ¬ 0 ≤ st.getD b 0 := fun hb => ha (h.cl b a (adj_symm hab) hb (h.lt hi hab.2.1 hb)).1
      rw [if_neg (fun x => hb x.2)]
      split <;> omega
  · have hp := (rfar_conn hi h hk).2 hc
    have h0 : st.getD k 0 ≠ 0 := fun e => hne (h.one k hk e)
    obtain ⟨p, p1, p2, p3⟩ := h.pr k hk (by omega)
    refine ⟨p, (rfar_conn hi h p1.1).1 p2, p1, ?_⟩
    show (if p < g.nodes.length ∧ 0 ≤ st.getD p 0 then st.getD p 0 else 0) + 1 = (if k < g.nodes.length ∧ 0 ≤ st.getD k 0 then st.getD k 0 else 0)
    rw [if_pos ⟨p1.1, p2⟩, if_pos ⟨hk, hp⟩]; exact p3
theorem farRun_top {g : Grf} : ∀ (gk : Nat) (st : List Int × List Nat), OInv g.nodes.length gk st → (farRun g gk st).length = g.nodes.length ∧ ∀ v ∈ farRun g gk st, -1 ≤ v
  | 0, st, h => ⟨h.len, fun v hv => (h.top v hv).1⟩
  | gk + 1, st, h => by
    obtain ⟨ls, row⟩ := st
    unfold farRun
    cases row with
    | nil => exact ⟨h.len, fun v hv => (h.top v hv).1⟩
    | cons r rest => exact farRun_top gk _ ((h.enter rfl).ties g.nodes rfl _ g.ties).leave
/-- Both searches tell the same. -/
theorem rfar_eq {g : Grf} (hch : chain nodLt g.nodes = true) {i : Nat} (hi : i < g.nodes.length) : rFarI g i = farI g i := by
  have h : RInv g i g.nodes.length (rFarI g i) := RInv.rounds hch hi (RInv.start hi) g.nodes.length
  obtain ⟨hl, ht⟩ := farRun_top (g := g) _ _ (OInv.start hi)
  have hl : (farI g i).length = g.nodes.length := hl
  have ht : ∀ v ∈ farI g i, -1 ≤ v := ht
  apply List.ext_getElem?
  intro k
  by_cases hk : k < g.nodes.length
  · have e1 : (rFarI g i)[k]? = some ((rFarI g i).getD k 0) := by simp [List.getD, h.len, hk]
    have e2 : (farI g i)[k]? = some ((farI g i).getD k 0) := by simp [List.getD, hl, hk]
    rw [e1, e2]
    congr 1
    by_cases hc : Conn g i k
    · have := far_dist hch hi (rfar_dist hi h) hk hc
      rw [this]
      have hp := (rfar_conn hi h hk).2 hc
      show (rFarI g i).getD k 0 = if k < g.nodes.length ∧ 0 ≤ (rFarI g i).getD k 0 then (rFarI g i).getD k 0 else 0
      rw [if_pos ⟨hk, hp⟩]
    · have h1 : ¬ 0 ≤ (rFarI g i).getD k 0 := fun x => hc ((rfar_conn hi h hk).1 x)
      have h2 : ¬ 0 ≤ (farI g i).getD k 0 := fun x => hc ((far_reach hch hi hk).1 x)
      have h3 := (h.rng k hk).1
      have h4 := ht _ (mem_getD (l := farI g i) (k := k) (by rw [hl]; exact hk))
      omega
  · rw [List.getElem?_eq_none (by rw [h.len]; omega), List.getElem?_eq_none (by rw [hl]; omega)]
end Go.Proofs.YtfjnkidblalckaaGreatDoor

/- Contract of the reference: kinref1.Find: a node by its number, from the head. No condition. -/
namespace Go.Proofs.YtfjnkidblalckaaGreatDoor
open Go Go.RowKit

def rfI (l : List Nod) (id : Int) : Int := idxI (fun n => decide (n.id = id)) l
set_option maxHeartbeats 1000000 in
theorem rgfind_any (g : Grf) (vn vt : Value) (id : Int) (w : World) (hG : GrfR w vn vt g) :
    Calls Tryz.prog 11 #[.agg #[vn, vt], .int .i64 id] w fun e w' => e = .returned (.int .i64 (rfI g.nodes id)) ∧ Below w.heap.size w w' := by
  obtain ⟨A1, c1, rfl, _, hm1⟩ := hG.1.form
  obtain ⟨A2, c2, rfl, _, hm2⟩ := hG.2.form
  unfold maxLen at hm1 hm2
  have hb0 : Below w.heap.size w (w.alloc (.cells #[.slice A1 g.nodes.length c1, .slice A2 g.ties.length c2] 29)) := (Below.refl _ _).alloc (Nat.le_refl _) _
  obtain ⟨x0, x1⟩ := cell_box2 w (.slice A1 g.nodes.length c1) (.slice A2 g.ties.length c2) 29
  have hf := (hG.below hb0).1
  generalize g.nodes = l at *
  clear hG
  go_enter Tryz.func11, Tryz.ntmps11
  go_wp2_with fail
  generalize w.alloc (.cells #[.slice A1 l.length c1, .slice A2 g.ties.length c2] 29) = w0 at *
  go_loop [5] (fun i => ∃ k : Nat, k ≤ l.length ∧ i = .int .i64 k ∧ Hid (∀ j x, j < k → l[j]? = some x → decide (x.id = id) = false)) (fun i => l.length - (intOf i).toNat)
  case atStart => exact ⟨0, Nat.zero_le _, rfl, fun j x hj => absurd hj (Nat.not_lt_zero _)⟩
  case round =>
    obtain ⟨k, hk, rfl, HA⟩ := hrel
    by_cases hlt : k < l.length
    · obtain ⟨d, hd⟩ : ∃ d, l[k]? = some d := ⟨_, List.getElem?_eq_getElem hlt⟩
      obtain ⟨b, o, rfl, u, _, _, _, c0, _, _⟩ := nod_at hf hd
      have hlt' : (k : Int) < (l.length : Int) := by omega
      have HD : Hid (l[k]? = some d) := hd
      clear hd hf
      by_cases hq0 : d.id = id
      · have HE : Hid (rfI l id = k) := by unfold Hid rfI; exact idxI_hit (p := fun n : Nod => decide (n.id = id)) HA.out HD.out (decide_eq_true hq0)
        have hqb : (d.id == id) = true := by rw [beq_iff_eq]; exact hq0
        clear hq0
        go_wp2_with fail
        go_ret
        exact ⟨by rw [HE.out]; rfl, hb0⟩
      · have hqb : (d.id == id) = false := by rw [beq_eq_false_iff_ne]; exact hq0
        have HS : Hid (∀ j y, j < k + 1 → l[j]? = some y → decide (y.id = id) = false) := miss_step (p := fun n : Nod => decide (n.id = id)) HA.out HD.out (decide_eq_false hq0)
        clear hq0
        go_wp2_with fail
        go_round
        case rel => exact ⟨k + 1, by omega, by go_num, HS⟩
        case measure => simp [intOf]; omega
    · have hkl : k = l.length := by omega
      subst hkl
      have HE : Hid (rfI l id = -1) := by unfold Hid rfI; exact idxI_miss (p := fun n : Nod => decide (n.id = id)) HA.out
      clear hf
      go_wp2_with fail
      go_ret
      exact ⟨by rw [HE.out]; rfl, hb0⟩
end Go.Proofs.YtfjnkidblalckaaGreatDoor
