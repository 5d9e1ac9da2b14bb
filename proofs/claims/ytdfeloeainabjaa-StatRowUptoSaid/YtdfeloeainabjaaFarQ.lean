/- Plain: the search by breadth reaches just what hangs together; the parts are the classes of that. -/
import Derived.Test.YtdfeloeainabjaaStatC
namespace Go.Proofs.Ytdfeloeainabjaa

/-! ### Numbers that rise tell nodes apart -/
theorem chain_lt {l : List Nod} (hc : chain nodLt l = true) : ∀ {i j : Nat} {a b : Nod}, i < j → l[i]? = some a → l[j]? = some b → a.id < b.id := by
  intro i j
  induction j with
  | zero => intro a b h; omega
  | succ j ih =>
    intro a b h ha hb
    have hj : j < l.length := by have := (List.getElem?_eq_some_iff.1 hb).1; omega
    have h1 := chain_iff.1 hc j l[j] b (List.getElem?_eq_getElem hj) hb
    simp only [nodLt, decide_eq_true_eq] at h1
    rcases Nat.lt_or_ge i j with h2 | h2
    · have := ih (b := l[j]) h2 ha (List.getElem?_eq_getElem hj); omega
    · obtain rfl : i = j := by omega
      have := ha.symm.trans (List.getElem?_eq_getElem hj)
      cases this
      exact h1
theorem idAt_inj {l : List Nod} (hc : chain nodLt l = true) {i j : Nat} (hi : i < l.length) (hj : j < l.length) (h : idAt l i = idAt l j) : i = j := by
  have e1 : l[i]? = some l[i] := List.getElem?_eq_getElem hi
  have e2 : l[j]? = some l[j] := List.getElem?_eq_getElem hj
  unfold idAt at h
  rw [e1, e2] at h
  simp only at h
  rcases Nat.lt_trichotomy i j with h1 | h1 | h1
  · have := chain_lt hc h1 e1 e2; omega
  · exact h1
  · have := chain_lt hc h1 e2 e1; omega
theorem fhas_iff {l : List Nod} (hc : chain nodLt l = true) {id : Int} {k : Nat} : (fhas l id = true ∧ fpos l id = k) ↔ (k < l.length ∧ idAt l k = id) := by
  constructor
  · rintro ⟨h, rfl⟩
    refine ⟨fhas_lt h, ?_⟩
    unfold fhas eqAt at h
    split at h
    · rename_i d hd
      unfold idAt
      rw [hd]
      simp only [beq_iff_eq, nodC] at h
      exact cmpI_zero.1 h
    · cases h
  · rintro ⟨hk, h⟩
    have e1 : l[k]? = some l[k] := List.getElem?_eq_getElem hk
    have hid : l[k].id = id := by unfold idAt at h; rw [e1] at h; exact h
    have hp : fpos l id = k := by
      rcases Nat.lt_trichotomy (fpos l id) k with h1 | h1 | h1
      · have e2 : l[fpos l id]? = some l[fpos l id] := List.getElem?_eq_getElem (by omega)
        have h2 := chain_lt hc h1 e2 e1
        have h3 := low_ge (R := nodLt) hc (nodC_mono id) (i := fpos l id) (Nat.le_refl _) e2
        have := (@cmpI_neg l[fpos l id].id id)
        unfold nodC at h3
        omega
      · exact h1
      · have h3 := low_lt (c := nodC id) (l := l) (i := k) h1 e1
        have := (@cmpI_neg l[k].id id)
        unfold nodC at h3
        omega
    refine ⟨?_, hp⟩
    unfold fhas
    rw [hp]
    unfold eqAt
    rw [e1]
    simp [nodC, cmpI_zero, hid]

/-! ### Neighbours -/
def adj (g : Grf) (a b : Nat) : Prop := a < g.nodes.length ∧ b < g.nodes.length ∧ ∃ t ∈ g.ties, ∃ e ∈ tieEnds t, e.1 = idAt g.nodes a ∧ e.2 = idAt g.nodes b
theorem adj_symm {g : Grf} {a b : Nat} (h : adj g a b) : adj g b a := by
  obtain ⟨ha, hb, t, ht, e, he, h1, h2⟩ := h
  refine ⟨hb, ha, t, ht, (e.2, e.1), ?_, h2, h1⟩
  simp only [tieEnds, List.mem_cons, List.not_mem_nil, or_false] at he ⊢
  rcases he with rfl | rfl
  · exact Or.inr rfl
  · exact Or.inl rfl
inductive Conn (g : Grf) (i : Nat) : Nat → Prop
  | refl : Conn g i i
  | step {a b : Nat} : Conn g i a → adj g a b → Conn g i b
theorem Conn.trans {g : Grf} {i j k : Nat} (h1 : Conn g i j) (h2 : Conn g j k) : Conn g i k := by
  induction h2 with
  | refl => exact h1
  | step _ h ih => exact .step ih h
theorem Conn.symm {g : Grf} {i j : Nat} (h : Conn g i j) : Conn g j i := by
  induction h with
  | refl => exact .refl
  | step _ h ih => exact (Conn.step .refl (adj_symm h)).trans ih

/-! ### What the search marks -/
def Mk (st : List Int × List Nat) (k : Nat) : Prop := 0 ≤ st.1.getD k 0
theorem farEnd_mono {nodes : List Nod} {id d : Int} {e : Int × Int} {st : List Int × List Nat} (hn : st.1.length = nodes.length) (hd : 0 ≤ d) {k : Nat} (h : Mk st k) : Mk (farEnd nodes id d e st) k := by
  unfold farEnd
  split
  · rename_i hc
    unfold Mk at *
    by_cases hk : fpos nodes e.2 = k
    · subst hk
      rw [getD_set_self (by rw [hn]; exact fhas_lt hc.2.1)]; omega
    · rw [getD_set_other hk]; exact h
  · exact h
theorem farEnd_len {nodes : List Nod} {id d : Int} {e : Int × Int} {st : List Int × List Nat} : (farEnd nodes id d e st).1.length = st.1.length := by
  unfold farEnd; split <;> simp
/-- What is new is in the row; what was in the row is. -/
theorem farEnd_new {nodes : List Nod} {id d : Int} {e : Int × Int} {st : List Int × List Nat} {k : Nat} (h : Mk (farEnd nodes id d e st) k) : Mk st k ∨ k ∈ (farEnd nodes id d e st).2 := by
  unfold farEnd at h ⊢
  split
  · rename_i hc
    rw [if_pos hc] at h
    by_cases hk : fpos nodes e.2 = k
    · right; simp [hk]
    · left
      unfold Mk at *
      rwa [getD_set_other hk] at h
  · rename_i hc
    rw [if_neg hc] at h
    exact Or.inl h
theorem farEnd_row {nodes : List Nod} {id d : Int} {e : Int × Int} {st : List Int × List Nat} : ∃ more, (farEnd nodes id d e st).2 = st.2 ++ more := by
  unfold farEnd; split
  · exact ⟨_, rfl⟩
  · exact ⟨[], by simp⟩
/-- Behind it the other end is marked. -/
theorem farEnd_marks {nodes : List Nod} (hch : chain nodLt nodes = true) {id d : Int} {e : Int × Int} {st : List Int × List Nat} (hn : st.1.length = nodes.length) (hd : 0 ≤ d) {b : Nat} (hb : b < nodes.length) (h1 : e.1 = id) (h2 : e.2 = idAt nodes b) : Mk (farEnd nodes id d e st) b := by
  obtain ⟨hf, hp⟩ := (fhas_iff hch (id := e.2) (k := b)).2 ⟨hb, h2.symm⟩
  unfold farEnd
  by_cases hlt : st.1.getD (fpos nodes e.2) 0 < 0
  · rw [if_pos ⟨h1, hf, hlt⟩]
    unfold Mk
    rw [hp, getD_set_self (by rw [hn]; exact hb)]; omega
  · rw [if_neg (fun h => hlt h.2.2)]
    unfold Mk
    rw [hp] at hlt; omega
/-- What is newly marked hangs on the place that is gone from. -/
theorem farEnd_conn {g : Grf} (hch : chain nodLt g.nodes = true) {i r : Nat} (hr : r < g.nodes.length) {d : Int} {e : Int × Int} {t : Tie} (ht : t ∈ g.ties) (he : e ∈ tieEnds t) {st : List Int × List Nat} (hcr : Conn g i r)
    (hall : ∀ k, k < g.nodes.length → Mk st k → Conn g i k) : ∀ k, k < g.nodes.length → Mk (farEnd g.nodes (idAt g.nodes r) d e st) k → Conn g i k := by
  intro k hk h
  unfold farEnd at h
  split at h
  · rename_i hc
    by_cases hk2 : fpos g.nodes e.2 = k
    · obtain ⟨h1, h2⟩ := (fhas_iff hch (id := e.2) (k := k)).1 ⟨hc.2.1, hk2⟩
      exact .step hcr ⟨hr, h1, t, ht, e, he, hc.1, h2.symm⟩
    · refine hall k hk ?_
      unfold Mk at *
      rwa [getD_set_other hk2] at h
  · exact hall k hk h

/-- What a list of ends makes of a state. -/
structure Grew (nodes : List Nod) (st st' : List Int × List Nat) : Prop where
  len : st'.1.length = st.1.length
  mono : ∀ k, Mk st k → Mk st' k
  new : ∀ k, Mk st' k → Mk st k ∨ k ∈ st'.2
  row : ∃ more, st'.2 = st.2 ++ more
theorem Grew.refl (nodes : List Nod) (st : List Int × List Nat) : Grew nodes st st := ⟨rfl, fun _ h => h, fun _ h => .inl h, ⟨[], by simp⟩⟩
theorem Grew.trans {nodes : List Nod} {a b c : List Int × List Nat} (h1 : Grew nodes a b) (h2 : Grew nodes b c) : Grew nodes a c := by
  obtain ⟨m1, r1⟩ := h1.row
  obtain ⟨m2, r2⟩ := h2.row
  refine ⟨h2.len.trans h1.len, fun k h => h2.mono k (h1.mono k h), fun k h => ?_, ⟨m1 ++ m2, by rw [r2, r1, List.append_assoc]⟩⟩
  rcases h2.new k h with h | h
  · rcases h1.new k h with h | h
    · exact .inl h
    · exact .inr (by rw [r2]; exact List.mem_append_left _ h)
  · exact .inr h
theorem farEnd_grew {nodes : List Nod} {id d : Int} {e : Int × Int} {st : List Int × List Nat} (hn : st.1.length = nodes.length) (hd : 0 ≤ d) : Grew nodes st (farEnd nodes id d e st) :=
  ⟨farEnd_len, fun _ h => farEnd_mono hn hd h, fun _ h => farEnd_new h, farEnd_row⟩
theorem farTie_grew {nodes : List Nod} {id d : Int} {t : Tie} {st : List Int × List Nat} (hn : st.1.length = nodes.length) (hd : 0 ≤ d) : Grew nodes st (farTie nodes id d st t) :=
  (farEnd_grew hn hd).trans (farEnd_grew (by rw [farEnd_len]; exact hn) hd)
theorem farTies_grew {nodes : List Nod} {id d : Int} (hd : 0 ≤ d) : ∀ (ts : List Tie) (st : List Int × List Nat), st.1.length = nodes.length → Grew nodes st (farTies nodes id d ts st)
  | [], st, _ => Grew.refl nodes st
  | t :: ts, st, hn => (farTie_grew (t := t) hn hd).trans (farTies_grew hd ts _ (by rw [(farTie_grew (t := t) hn hd).len]; exact hn))
theorem farTies_marks {nodes : List Nod} (hch : chain nodLt nodes = true) {id d : Int} (hd : 0 ≤ d) : ∀ (ts : List Tie) (st : List Int × List Nat), st.1.length = nodes.length → ∀ {t : Tie} {e : Int × Int} {b : Nat}, t ∈ ts → e ∈ tieEnds t → b < nodes.length → e.1 = id → e.2 = idAt nodes b → Mk (farTies nodes id d ts st) b
  | t0 :: ts, st, hn, t, e, b, ht, he, hb, h1, h2 => by
    have hn' : (farTie nodes id d st t0).1.length = nodes.length := by rw [(farTie_grew (t := t0) hn hd).len]; exact hn
    rcases List.mem_cons.1 ht with rfl | ht
    · refine (farTies_grew hd ts _ hn').mono b ?_
      simp only [tieEnds, List.mem_cons, List.not_mem_nil, or_false] at he
      have hn1 : (farEnd nodes id d (t.src, t.dst) st).1.length = nodes.length := by rw [farEnd_len]; exact hn
      rcases he with rfl | rfl
      · exact farEnd_mono hn1 hd (farEnd_marks hch hn hd hb h1 h2)
      · exact farEnd_marks hch hn1 hd hb h1 h2
    · exact farTies_marks hch hd ts _ hn' ht he hb h1 h2
theorem farTies_conn {g : Grf} (hch : chain nodLt g.nodes = true) {i r : Nat} (hr : r < g.nodes.length) {d : Int} (hcr : Conn g i r) : ∀ (ts : List Tie) (st : List Int × List Nat), (∀ t ∈ ts, t ∈ g.ties) →
    (∀ k, k < g.nodes.length → Mk st k → Conn g i k) → ∀ k, k < g.nodes.length → Mk (farTies g.nodes (idAt g.nodes r) d ts st) k → Conn g i k
  | [], st, _, hall => hall
  | t :: ts, st, hts, hall => by
    have ht := hts t (by simp)
    refine farTies_conn hch hr hcr ts _ (fun t' h' => hts t' (by simp [h'])) ?_
    exact farEnd_conn hch hr ht (by simp [tieEnds]) hcr (farEnd_conn hch hr ht (by simp [tieEnds]) hcr hall)

/-- At the head of the outer loop: what is marked hangs on i; what is marked and not in the row has its neighbours marked. -/
structure SInv (g : Grf) (i : Nat) (st : List Int × List Nat) : Prop where
  src : Mk st i
  sound : ∀ k, k < g.nodes.length → Mk st k → Conn g i k
  closed : ∀ k, k < g.nodes.length → Mk st k → k ∉ st.2 → ∀ b, adj g k b → Mk st b
theorem SInv.step {g : Grf} (hch : chain nodLt g.nodes = true) {i gk r : Nat} {ls : List Int} {rest : List Nat} (hO : OInv g.nodes.length gk (ls, r :: rest)) (h : SInv g i (ls, r :: rest)) :
    SInv g i ((farTies g.nodes (idAt g.nodes r) (ls.getD r 0) g.ties (ls, r :: rest)).1, (farTies g.nodes (idAt g.nodes r) (ls.getD r 0) g.ties (ls, r :: rest)).2.tail) := by
  obtain ⟨hr, hd⟩ := hO.mem r (by simp)
  have hG := farTies_grew (nodes := g.nodes) (id := idAt g.nodes r) hd g.ties (ls, r :: rest) hO.len
  have hC := farTies_conn hch hr (d := ls.getD r 0) (h.sound r hr hd) g.ties (ls, r :: rest) (fun _ h => h) h.sound
  have hM := fun {t : Tie} {e : Int × Int} {b : Nat} => farTies_marks (nodes := g.nodes) hch (id := idAt g.nodes r) hd g.ties (ls, r :: rest) hO.len (t := t) (e := e) (b := b)
  generalize farTies g.nodes (idAt g.nodes r) (ls.getD r 0) g.ties (ls, r :: rest) = st' at *
  obtain ⟨more, hmore⟩ := hG.row
  refine ⟨hG.mono i h.src, hC, fun k hk hm hn b hab => ?_⟩
  rw [hmore] at hn
  simp only [List.cons_append, List.tail_cons] at hn
  by_cases hkr : k = r
  · subst hkr
    obtain ⟨_, hb, t, ht, e, he, h1, h2⟩ := hab
    exact hM ht he hb h1 h2
  · have hk2 : k ∉ st'.2 := by rw [hmore]; simp [hkr]; simpa using hn
    rcases hG.new k hm with h1 | h1
    · refine hG.mono b (h.closed k hk h1 ?_ b hab)
      intro h2
      exact hk2 (by rw [hmore]; exact List.mem_append_left _ h2)
    · exact absurd h1 hk2
theorem farRun_reach (g : Grf) (hch : chain nodLt g.nodes = true) (i : Nat) : ∀ (gk : Nat) (st : List Int × List Nat), OInv g.nodes.length gk st → SInv g i st → ∀ k, k < g.nodes.length → (0 ≤ (farRun g gk st).getD k 0 ↔ Conn g i k)
  | 0, st, hO, h, k, hk => by
    have hrow : st.2 = [] := List.eq_nil_of_length_eq_zero (by have := hO.meas; omega)
    refine ⟨h.sound k hk, fun hc => ?_⟩
    show Mk st k
    induction hc with
    | refl => exact h.src
    | step h1 h2 ih => exact h.closed _ h2.1 (ih h2.1) (by rw [hrow]; simp) _ h2
  | gk + 1, st, hO, h, k, hk => by
    obtain ⟨ls, row⟩ := st
    unfold farRun
    cases row with
    | nil =>
      refine ⟨h.sound k hk, fun hc => ?_⟩
      show Mk (ls, []) k
      induction hc with
      | refl => exact h.src
      | step h1 h2 ih => exact h.closed _ h2.1 (ih h2.1) (by simp) _ h2
    | cons r rest => exact farRun_reach g hch i gk _ ((hO.enter rfl).ties g.nodes rfl _ g.ties).leave (h.step hch hO) k hk
theorem far_reach {g : Grf} (hch : chain nodLt g.nodes = true) {i : Nat} (hi : i < g.nodes.length) {k : Nat} (hk : k < g.nodes.length) : 0 ≤ (farI g i).getD k 0 ↔ Conn g i k := by
  refine farRun_reach g hch i _ _ (OInv.start hi) ⟨?_, ?_, ?_⟩ k hk
  · unfold Mk; rw [getD_set_self (by simpa using hi)]; omega
  · intro j hj h
    by_cases hij : i = j
    · subst hij; exact .refl
    · unfold Mk at h
      rw [getD_set_other hij] at h
      simp [List.getD, hj] at h
  · intro j hj h hn b _
    by_cases hij : i = j
    · subst hij; simp at hn
    · unfold Mk at h
      rw [getD_set_other hij] at h
      simp [List.getD, hj] at h
end Go.Proofs.Ytdfeloeainabjaa
