/- Plain: the search by breadth tells how far it is: a distance that steps by one from node to node is what it marks. -/
import Derived.Test.YtdfeloeainabjaaFarQ
namespace Go.Proofs.Ytdfeloeainabjaa

/-- A distance from node i. -/
structure Dist (g : Grf) (i : Nat) (D : Nat → Int) : Prop where
  zero : D i = 0
  nn : ∀ k, 0 ≤ D k
  up : ∀ a b, adj g a b → D b ≤ D a + 1
  pr : ∀ k, k < g.nodes.length → Conn g i k → k ≠ i → ∃ p, Conn g i p ∧ adj g p k ∧ D p + 1 = D k
theorem farEnd_dist {g : Grf} (hch : chain nodLt g.nodes = true) {i : Nat} {D : Nat → Int} (hD : Dist g i D) {r : Nat} (hr : r < g.nodes.length) (hcr : Conn g i r) {t : Tie} {e : Int × Int} (ht : t ∈ g.ties) (he : e ∈ tieEnds t) {st : List Int × List Nat}
    (hn : st.1.length = g.nodes.length) (h1 : ∀ k, k < g.nodes.length → Mk st k → st.1.getD k 0 = D k) (hlow : ∀ k, k < g.nodes.length → Conn g i k → D k ≤ D r → Mk st k) :
    (∀ k, k < g.nodes.length → Mk (farEnd g.nodes (idAt g.nodes r) (D r) e st) k → (farEnd g.nodes (idAt g.nodes r) (D r) e st).1.getD k 0 = D k) ∧ ∃ more, (farEnd g.nodes (idAt g.nodes r) (D r) e st).2 = st.2 ++ more ∧ ∀ b ∈ more, D b = D r + 1 := by
  unfold farEnd
  split
  · rename_i hc
    obtain ⟨hb, hbid⟩ := (fhas_iff hch (id := e.2) (k := fpos g.nodes e.2)).1 ⟨hc.2.1, rfl⟩
    have hadj : adj g r (fpos g.nodes e.2) := ⟨hr, hb, t, ht, e, he, hc.1, hbid.symm⟩
    have hcb : Conn g i (fpos g.nodes e.2) := .step hcr hadj
    have hup := hD.up _ _ hadj
    have hne : ¬ D (fpos g.nodes e.2) ≤ D r := fun h => by
      have := hlow _ hb hcb h
      unfold Mk at this
      have := hc.2.2
      omega
    have hDb : D (fpos g.nodes e.2) = D r + 1 := by omega
    refine ⟨fun k hk hm => ?_, [fpos g.nodes e.2], rfl, fun b hb2 => by simp at hb2; subst hb2; exact hDb⟩
    by_cases hk2 : fpos g.nodes e.2 = k
    · subst hk2
      show (st.1.set (fpos g.nodes e.2) (D r + 1)).getD (fpos g.nodes e.2) 0 = _
      rw [getD_set_self (by rw [hn]; exact hb), hDb]
    · show (st.1.set (fpos g.nodes e.2) (D r + 1)).getD k 0 = _
      rw [getD_set_other hk2]
      refine h1 k hk ?_
      unfold Mk at hm ⊢
      rwa [getD_set_other hk2] at hm
  · exact ⟨h1, [], by simp, fun b hb => by simp at hb⟩
theorem farTies_dist {g : Grf} (hch : chain nodLt g.nodes = true) {i : Nat} {D : Nat → Int} (hD : Dist g i D) {r : Nat} (hr : r < g.nodes.length) (hcr : Conn g i r) : ∀ (ts : List Tie) (st : List Int × List Nat), (∀ t ∈ ts, t ∈ g.ties) →
    st.1.length = g.nodes.length → (∀ k, k < g.nodes.length → Mk st k → st.1.getD k 0 = D k) → (∀ k, k < g.nodes.length → Conn g i k → D k ≤ D r → Mk st k) →
    (∀ k, k < g.nodes.length → Mk (farTies g.nodes (idAt g.nodes r) (D r) ts st) k → (farTies g.nodes (idAt g.nodes r) (D r) ts st).1.getD k 0 = D k) ∧ ∃ more, (farTies g.nodes (idAt g.nodes r) (D r) ts st).2 = st.2 ++ more ∧ ∀ b ∈ more, D b = D r + 1
  | [], st, _, _, h1, _ => ⟨h1, [], by simp [farTies], fun b hb => by simp at hb⟩
  | t :: ts, st, hts, hn, h1, hlow => by
    have ht := hts t (by simp)
    have hd := hD.nn r
    obtain ⟨a1, m1, a2, a3⟩ := farEnd_dist hch hD hr hcr ht (e := (t.src, t.dst)) (by simp [tieEnds]) hn h1 hlow
    have hn1 : (farEnd g.nodes (idAt g.nodes r) (D r) (t.src, t.dst) st).1.length = g.nodes.length := by rw [farEnd_len]; exact hn
    have hl1 : ∀ k, k < g.nodes.length → Conn g i k → D k ≤ D r → Mk (farEnd g.nodes (idAt g.nodes r) (D r) (t.src, t.dst) st) k := fun k hk hc hk2 => farEnd_mono hn hd (hlow k hk hc hk2)
    obtain ⟨b1, m2, b2, b3⟩ := farEnd_dist hch hD hr hcr ht (e := (t.dst, t.src)) (by simp [tieEnds]) hn1 a1 hl1
    have hn2 : (farTie g.nodes (idAt g.nodes r) (D r) st t).1.length = g.nodes.length := by rw [(farTie_grew (t := t) hn hd).len]; exact hn
    have hl2 : ∀ k, k < g.nodes.length → Conn g i k → D k ≤ D r → Mk (farTie g.nodes (idAt g.nodes r) (D r) st t) k := fun k hk hc hk2 => (farTie_grew (t := t) hn hd).mono k (hlow k hk hc hk2)
    obtain ⟨c1, m3, c2, c3⟩ := farTies_dist hch hD hr hcr ts (farTie g.nodes (idAt g.nodes r) (D r) st t) (fun t' h' => hts t' (by simp [h'])) hn2 b1 hl2
    refine ⟨c1, m1 ++ m2 ++ m3, ?_, fun b hb => ?_⟩
    · show (farTies g.nodes (idAt g.nodes r) (D r) ts (farTie g.nodes (idAt g.nodes r) (D r) st t)).2 = _
      rw [c2]
      show (farEnd g.nodes (idAt g.nodes r) (D r) (t.dst, t.src) (farEnd g.nodes (idAt g.nodes r) (D r) (t.src, t.dst) st)).2 ++ m3 = _
      rw [b2, a2]; simp
    · rcases List.mem_append.1 hb with hb | hb
      · rcases List.mem_append.1 hb with hb | hb
        · exact a3 b hb
        · exact b3 b hb
      · exact c3 b hb
/-- At the head of the outer loop. -/
structure DInv (g : Grf) (i : Nat) (D : Nat → Int) (st : List Int × List Nat) : Prop where
  v : ∀ k, k < g.nodes.length → Mk st k → st.1.getD k 0 = D k
  s : st.2.Pairwise fun a b => D a ≤ D b
  m : ∀ a ∈ st.2, ∀ b ∈ st.2, D b ≤ D a + 1
  l : ∀ r rest, st.2 = r :: rest → ∀ k, k < g.nodes.length → Conn g i k → D k ≤ D r → Mk st k
theorem DInv.step {g : Grf} (hch : chain nodLt g.nodes = true) {i gk r : Nat} {D : Nat → Int} (hD : Dist g i D) {ls : List Int} {rest : List Nat} (hO : OInv g.nodes.length gk (ls, r :: rest)) (hS : SInv g i (ls, r :: rest)) (h : DInv g i D (ls, r :: rest)) :
    DInv g i D ((farTies g.nodes (idAt g.nodes r) (ls.getD r 0) g.ties (ls, r :: rest)).1, (farTies g.nodes (idAt g.nodes r) (ls.getD r 0) g.ties (ls, r :: rest)).2.tail) := by
  obtain ⟨hr, hd⟩ := hO.mem r (by simp)
  have hcr := hS.sound r hr hd
  have hDr : ls.getD r 0 = D r := h.v r hr hd
  have hS2 := hS.step hch hO
  have hG := farTies_grew (nodes := g.nodes) (id := idAt g.nodes r) hd g.ties (ls, r :: rest) hO.len
  have hlow := h.l r rest rfl
  obtain ⟨c1, more, c2, c3⟩ := farTies_dist hch hD hr hcr g.ties (ls, r :: rest) (fun _ h => h) hO.len h.v hlow
  rw [← hDr] at c1 c2
  generalize farTies g.nodes (idAt g.nodes r) (ls.getD r 0) g.ties (ls, r :: rest) = st' at *
  have ht : st'.2.tail = rest ++ more := by rw [c2]; rfl
  have hs := h.s
  simp only [List.pairwise_cons] at hs
  have hlo : ∀ a ∈ rest ++ more, D r ≤ D a ∧ D a ≤ D r + 1 := fun a ha => by
    rcases List.mem_append.1 ha with ha | ha
    · exact ⟨hs.1 a ha, h.m r (by simp) a (by simp [ha])⟩
    · have := c3 a ha; omega
  have hpw : (rest ++ more).Pairwise fun a b => D a ≤ D b := by
    rw [List.pairwise_append]
    refine ⟨hs.2, ?_, fun a ha b hb => ?_⟩
    · rw [List.pairwise_iff_forall_sublist]
      intro a b hab
      have h1 := c3 a (hab.subset (by simp))
      have h2 := c3 b (hab.subset (by simp))
      omega
    · have h1 := (hlo a (List.mem_append_left _ ha)).2
      have h2 := c3 b hb
      omega
  refine ⟨c1, by show (st'.2.tail).Pairwise _; rw [ht]; exact hpw, ?_, ?_⟩
  · intro a ha b hb
    have ha : a ∈ st'.2.tail := ha
    have hb : b ∈ st'.2.tail := hb
    rw [ht] at ha hb
    have := hlo a ha; have := hlo b hb; omega
  · intro r' rest' hq k hk hc hkr
    have hq : st'.2.tail = r' :: rest' := hq
    rw [ht] at hq
    have hr' := hlo r' (by rw [hq]; simp)
    by_cases h1 : D k ≤ D r
    · exact hG.mono k (hlow k hk hc h1)
    · have hkv : D k = D r + 1 := by omega
      have hkr' : D r' = D r + 1 := by omega
      have hall : ∀ a ∈ rest ++ more, D r + 1 ≤ D a := fun a ha => by
        rw [hq] at ha hpw
        rcases List.mem_cons.1 ha with rfl | ha
        · omega
        · have := (List.pairwise_cons.1 hpw).1 a ha; omega
      have hki : k ≠ i := by
        rintro rfl
        have := hD.zero; have := hD.nn r; omega
      obtain ⟨p, hp1, hp2, hp3⟩ := hD.pr k hk hc hki
      have hpm : Mk st' p := hG.mono p (hlow p hp2.1 hp1 (by omega))
      refine hS2.closed p hp2.1 hpm (fun hin => ?_) k hp2
      have hin : p ∈ st'.2.tail := hin
      rw [ht] at hin
      have := hall p hin
      omega
theorem farRun_dist (g : Grf) (hch : chain nodLt g.nodes = true) {i : Nat} {D : Nat → Int} (hD : Dist g i D) : ∀ (gk : Nat) (st : List Int × List Nat), OInv g.nodes.length gk st → SInv g i st → DInv g i D st → ∀ k, k < g.nodes.length → 0 ≤ (farRun g gk st).getD k 0 → (farRun g gk st).getD k 0 = D k
  | 0, st, _, _, h, k, hk => h.v k hk
  | gk + 1, st, hO, hS, h, k, hk => by
    obtain ⟨ls, row⟩ := st
    unfold farRun
    cases row with
    | nil => exact h.v k hk
    | cons r rest => exact farRun_dist g hch hD gk _ ((hO.enter rfl).ties g.nodes rfl _ g.ties).leave (hS.step hch hO) (h.step hch hD hO hS) k hk
theorem start_sinv {g : Grf} {i : Nat} (hi : i < g.nodes.length) : SInv g i ((List.replicate g.nodes.length (-1)).set i 0, [i]) := by
  refine ⟨?_, ?_, ?_⟩
  · unfold Mk; rw [getD_set_self (by simpa using hi)]; omega
  · intro j hj h
    by_cases hij : i = j
    · subst hij; exact .refl
    · unfold Mk at h
      rw [getD_set_other hij] at h
      simp [List.getD, hj] at h
  · intro j hj h hn
    have hij : i ≠ j := by rintro rfl; simp at hn
    unfold Mk at h
    rw [getD_set_other hij] at h
    simp [List.getD, hj] at h
theorem far_dist {g : Grf} (hch : chain nodLt g.nodes = true) {i : Nat} (hi : i < g.nodes.length) {D : Nat → Int} (hD : Dist g i D) {k : Nat} (hk : k < g.nodes.length) (hc : Conn g i k) : (farI g i).getD k 0 = D k := by
  refine farRun_dist g hch hD _ _ (OInv.start hi) (start_sinv hi) ⟨?_, ?_, ?_, ?_⟩ k hk ((far_reach hch hi hk).2 hc)
  · intro j hj h
    by_cases hij : i = j
    · subst hij; rw [getD_set_self (by simpa using hi), hD.zero]
    · unfold Mk at h
      rw [getD_set_other hij] at h
      simp [List.getD, hj] at h
  · simp
  · intro a ha b hb
    simp at ha hb
    subst ha; subst hb
    omega
  · intro r rest hq j hj hcj hjr
    simp at hq
    obtain ⟨rfl, rfl⟩ := hq
    by_cases hij : i = j
    · subst hij; unfold Mk; rw [getD_set_self (by simpa using hi)]; omega
    · obtain ⟨p, _, _, hp⟩ := hD.pr j hj hcj (fun h => hij h.symm)
      have := hD.nn p; have := hD.zero
      omega
end Go.Proofs.Ytdfeloeainabjaa
