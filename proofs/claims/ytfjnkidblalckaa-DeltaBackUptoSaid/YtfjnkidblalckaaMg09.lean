/- Parts: OpR, DbP, DbQ. -/
import Derived.Test.YtfjnkidblalckaaMg08
import Derived.Test.YtfjnkidblalckaaMg07
/- Plain: an op on a right graph, if it is no fault, makes a right graph. No condition. -/
namespace Go.Proofs.Ytfjnkidblalckaa
open Go

theorem chain_pw {D : Type} {R : D → D → Bool} (tr : ∀ a b c, R a b = true → R b c = true → R a c = true) : ∀ {l : List D}, chain R l = true ↔ l.Pairwise fun a b => R a b = true
  | [] => by simp [chain]
  | [a] => by simp [chain]
  | a :: b :: r => by
    have ih := chain_pw tr (l := b :: r)
    rw [chain, Bool.and_eq_true, ih]
    constructor
    · rintro ⟨h1, h2⟩
      refine List.pairwise_cons.2 ⟨fun x hx => ?_, h2⟩
      rcases List.mem_cons.1 hx with rfl | hx
      · exact h1
      · exact tr a b x h1 ((List.pairwise_cons.1 h2).1 x hx)
    · intro h
      obtain ⟨h1, h2⟩ := List.pairwise_cons.1 h
      exact ⟨h1 b (by simp), h2⟩
theorem pw_insert {D : Type} {R : D → D → Prop} {l : List D} {i : Nat} {x : D} (h : l.Pairwise R) (h1 : ∀ d ∈ l.take i, R d x) (h2 : ∀ d ∈ l.drop i, R x d) : (l.take i ++ x :: l.drop i).Pairwise R := by
  rw [List.pairwise_append]
  refine ⟨h.sublist (List.take_sublist _ _), List.pairwise_cons.2 ⟨h2, h.sublist (List.drop_sublist _ _)⟩, fun a ha b hb => ?_⟩
  rcases List.mem_cons.1 hb with rfl | hb
  · exact h1 a ha
  · rw [← List.take_append_drop i l, List.pairwise_append] at h
    exact h.2.2 a ha b hb
theorem pw_delete {D : Type} {R : D → D → Prop} {l : List D} (h : l.Pairwise R) (i : Nat) : (l.take i ++ l.drop (i + 1)).Pairwise R := by
  rw [← List.eraseIdx_eq_take_drop_succ]
  exact h.sublist (List.eraseIdx_sublist _ _)
theorem mem_delete {D : Type} {l : List D} {i : Nat} {x : D} (h : x ∈ l.take i ++ l.drop (i + 1)) : x ∈ l := by
  rcases List.mem_append.1 h with h | h
  · exact List.mem_of_mem_take h
  · exact List.mem_of_mem_drop h
theorem len_delete {D : Type} (l : List D) (i : Nat) : (l.take i ++ l.drop (i + 1)).length ≤ l.length := by simp; omega
theorem mem_insert {D : Type} {l : List D} {i : Nat} {x y : D} (h : y ∈ l.take i ++ x :: l.drop i) : y = x ∨ y ∈ l := by
  rcases List.mem_append.1 h with h | h
  · exact .inr (List.mem_of_mem_take h)
  · rcases List.mem_cons.1 h with h | h
    · exact .inl h
    · exact .inr (List.mem_of_mem_drop h)
/-- What stands ahead of a place in a row, and behind it. -/
theorem low_parts {D : Type} {R : D → D → Bool} {c : D → Int} {l : List D} (hc : chain R l = true) (mono : ∀ a b, R a b = true → 0 ≤ c a → 0 ≤ c b) (hno : eqAt c l (lowI c l) = false)
    (hz : ∀ a b, R a b = true → c b = 0 → c a < 0) : (∀ d ∈ l.take (lowI c l), c d < 0) ∧ ∀ d ∈ l.drop (lowI c l), 0 < c d := by
  constructor
  · intro d hd
    obtain ⟨i, hi⟩ := List.mem_iff_getElem?.1 hd
    rw [List.getElem?_take] at hi
    split at hi
    · rename_i h; exact low_lt h hi
    · cases hi
  · intro d hd
    obtain ⟨i, hi⟩ := List.mem_iff_getElem?.1 hd
    rw [List.getElem?_drop] at hi
    have h0 := low_ge (c := c) hc mono (by omega) hi
    by_cases h1 : 0 < c d
    · exact h1
    · have hd0 : c d = 0 := by omega
      rcases Nat.eq_zero_or_pos i with rfl | hp
      · unfold eqAt at hno
        rw [Nat.add_zero] at hi
        rw [hi] at hno
        simp [hd0] at hno
      · have hil := (List.getElem?_eq_some_iff.1 hi).1
        have hm : l[lowI c l]? = some (l[lowI c l]'(by omega)) := List.getElem?_eq_getElem _
        have h2 := low_ge (c := c) hc mono (Nat.le_refl _) hm
        have h3 : 0 < c (l[lowI c l]'(by omega)) := by
          unfold eqAt at hno
          rw [hm] at hno
          have : ¬ c (l[lowI c l]'(by omega)) = 0 := by simpa using hno
          omega
        have key : ∀ (k : Nat) e, l[lowI c l + k]? = some e → 0 < c e := by
          intro k
          induction k with
          | zero => intro e he; rw [Nat.add_zero, hm] at he; injection he with he; subst he; exact h3
          | succ k ih =>
            intro e he
            have hl := (List.getElem?_eq_some_iff.1 he).1
            have hp' : l[lowI c l + k]? = some (l[lowI c l + k]'(by omega)) := List.getElem?_eq_getElem _
            have h4 := ih _ hp'
            have h5 := chain_iff.1 hc (lowI c l + k) _ e hp' (by rw [← he]; rfl)
            have h6 := mono _ _ h5 (by omega)
            by_cases h7 : c e = 0
            · have := hz _ _ h5 h7; omega
            · omega
        exact key i d hi
theorem cmpI_pos {a b : Int} : 0 < cmpI a b ↔ b < a := by unfold cmpI; split <;> (try split) <;> omega
theorem nodLt_tr : ∀ a b c, nodLt a b = true → nodLt b c = true → nodLt a c = true := by
  intro a b c h k
  unfold nodLt at *
  simp only [decide_eq_true_eq] at *
  omega
theorem tieLt_tr : ∀ a b c, tieLt a b = true → tieLt b c = true → tieLt a c = true := by
  intro a b c h k
  unfold tieLt at *
  simp only [decide_eq_true_eq] at *
  exact tieO_trans h k
theorem prpLt_iff {a b : Prp} : prpLt a b = true ↔ cmpS a.name b.name < 0 := by
  unfold prpLt; rw [ltS_cmp]; simp
theorem prpLt_tr : ∀ a b c, prpLt a b = true → prpLt b c = true → prpLt a c = true := by
  intro a b c h k
  rw [prpLt_iff] at *
  exact cmpS_trans h k
theorem tieO_pos {a b : Tie} (h : 0 < tieO a b) : tieO b a < 0 := by
  rw [tieO_neg]
  have h0 := @cmpS_zero a.bond b.bond
  have ha := cmpS_anti a.bond b.bond
  have h1 := @cmpI_pos a.src b.src
  have h2 := @cmpI_zero a.src b.src
  have h3 := @cmpI_pos a.dst b.dst
  unfold tieO orI at h
  by_cases e1 : cmpS a.bond b.bond = 0
  · rw [if_pos e1] at h
    unfold orI at h
    by_cases e2 : cmpI a.src b.src = 0
    · rw [if_pos e2] at h
      unfold orI orI at h
      by_cases e3 : cmpI a.dst b.dst = 0
      · rw [if_pos e3] at h; omega
      · rw [if_neg e3] at h
        exact .inr ⟨(h0.1 e1).symm, .inr ⟨(h2.1 e2).symm, h3.1 h⟩⟩
    · rw [if_neg e2] at h
      exact .inr ⟨(h0.1 e1).symm, .inl (h1.1 h)⟩
  · rw [if_neg e1] at h
    exact .inl (by omega)
/-! ### What makes a graph right -/
def clashN (p : Option Nod) (n : Nod) : Bool := match p with | some q => decide (n.id ≤ q.id) | none => false
def clashT (p : Option Tie) (t : Tie) : Bool := match p with | some q => decide (0 ≤ tieO q t) | none => false
theorem nodsE_mk : ∀ {l : List Nod} {p : Option Nod}, (∀ n ∈ l, idB n.id = true ∧ nodE n = 0) → chain nodLt l = true → (∀ a b, p = some a → l.head? = some b → nodLt a b = true) → nodsE p l = 0
  | [], p, _, _, _ => by cases p <;> rfl
  | n :: r, p, h, hc, hp => by
    obtain ⟨h1, h2⟩ := h n (by simp)
    have e : nodsE p (n :: r) = if idB n.id = false then 1 else if clashN p n then 7 else if nodE n = 0 then nodsE (some n) r else nodE n := by cases p <;> rfl
    have hno : clashN p n = false := by
      clear e
      cases p with
      | none => rfl
      | some q =>
        have := hp q n rfl rfl
        unfold nodLt at this
        have := of_decide_eq_true this
        exact decide_eq_false (by omega)
    rw [e, if_neg (by simp [h1]), hno, if_neg (by simp), if_pos h2]
    refine nodsE_mk (fun m hm => h m (by simp [hm])) ?_ (fun a b ha hb => ?_)
    · cases r with
      | nil => rfl
      | cons b r => simp only [chain, Bool.and_eq_true] at hc; exact hc.2
    · cases ha
      cases r with
      | nil => cases hb
      | cons b' r => simp at hb; subst hb; simp only [chain, Bool.and_eq_true] at hc; exact hc.1
theorem tiesE_mk : ∀ {l : List Tie} {p : Option Tie}, (∀ t ∈ l, tieE t = 0) → chain tieLt l = true → (∀ a b, p = some a → l.head? = some b → tieLt a b = true) → tiesE p l = 0
  | [], p, _, _, _ => by cases p <;> rfl
  | t :: r, p, h, hc, hp => by
    have h1 := h t (by simp)
    have e : tiesE p (t :: r) = if tieE t = 0 then (if clashT p t then 7 else tiesE (some t) r) else tieE t := by cases p <;> rfl
    have hno : clashT p t = false := by
      clear e
      cases p with
      | none => rfl
      | some q =>
        have := hp q t rfl rfl
        unfold tieLt at this
        have := of_decide_eq_true this
        exact decide_eq_false (by omega)
    rw [e, if_pos h1, hno, if_neg (by simp)]
    refine tiesE_mk (fun m hm => h m (by simp [hm])) ?_ (fun a b ha hb => ?_)
    · cases r with
      | nil => rfl
      | cons b r => simp only [chain, Bool.and_eq_true] at hc; exact hc.2
    · cases ha
      cases r with
      | nil => cases hb
      | cons b' r => simp at hb; subst hb; simp only [chain, Bool.and_eq_true] at hc; exact hc.1
theorem grf_mk {g : Grf} (h1 : g.nodes.length ≤ 60) (h2 : g.ties.length ≤ 120) (h3 : chain nodLt g.nodes = true) (h4 : ∀ n ∈ g.nodes, idB n.id = true ∧ nodE n = 0) (h5 : chain tieLt g.ties = true) (h6 : ∀ t ∈ g.ties, tieE t = 0) : grfE g = 0 := by
  unfold grfE
  rw [if_neg (by omega), nodsE_mk (p := none) h4 h3 (fun a b ha => by cases ha), if_pos rfl, tiesE_mk (p := none) h6 h5 (fun a b ha => by cases ha)]
theorem firstE_mk {D : Type} {f : D → Int} : ∀ {l : List D}, (∀ d ∈ l, f d = 0) → firstE f l = 0
  | [], _ => rfl
  | d :: r, h => by rw [firstE, if_pos (h d (by simp))]; exact firstE_mk fun x hx => h x (by simp [hx])
theorem rec_mk {r : List Prp} (h1 : r.length ≤ 8) (h2 : ∀ p ∈ r, prpE p = 0) (h3 : chain prpLt r = true) : recE r = 0 := by
  have h3 : chain (fun a b : Prp => ltS a.name b.name) r = true := h3
  unfold recE
  rw [if_neg (by omega), if_pos (firstE_mk h2), h3]; rfl
theorem nodE_put {n : Nod} {r : List Prp} (h : nodE n = 0) (hr : recE r = 0) : nodE ⟨n.id, n.kind, r⟩ = 0 := by
  unfold nodE at h ⊢
  by_cases h1 : idB n.id = false
  · rw [if_pos h1] at h; cases h
  · rw [if_neg h1] at h ⊢
    by_cases h2 : nameE n.kind = 0
    · rw [if_pos h2]; exact hr
    · rw [if_neg h2] at h; exact absurd h h2
/-! ### Records -/
theorem prp_hz (nm : ByteArray) : ∀ a b, prpLt a b = true → prpC nm b = 0 → prpC nm a < 0 := by
  intro a b h k
  rw [prpLt_iff] at h
  unfold prpC at *
  rw [← cmpS_zero.1 k]
  exact h
theorem set_right {r : List Prp} {p : Prp} (h : setE r p = 0) : recE (setR r p) = 0 := by
  have h0 := h
  unfold setE at h
  by_cases e1 : recE r = 0
  · rw [if_pos e1] at h
    by_cases e2 : prpE p = 0
    · rw [if_pos e2] at h
      obtain ⟨a1, a2, a3⟩ := rec_ok e1
      unfold setR
      rw [if_pos h0]
      unfold putP
      cases hh : rhas r p.name with
      | true =>
        rw [if_pos rfl]
        obtain ⟨q, hq⟩ := rhas_some hh
        have hqn : q.name = p.name := by
          unfold rhas eqAt at hh
          rw [hq] at hh
          have : prpC p.name q = 0 := by simpa using hh
          exact cmpS_zero.1 this
        refine rec_mk (by simpa using a1) (fun x hx => ?_) ?_
        · rcases List.mem_or_eq_of_mem_set hx with hx | rfl
          · exact a2 x hx
          · exact e2
        · rw [chain_iff]
          intro i a b ha hb
          have key : ∀ (j : Nat) (c : Prp), (r.set (rpos r p.name) p)[j]? = some c → ∃ c', r[j]? = some c' ∧ c'.name = c.name := by
            intro j c hc
            rw [List.getElem?_set] at hc
            split at hc
            · rename_i hj
              subst hj
              split at hc
              · injection hc with hc; subst hc; exact ⟨q, hq, hqn⟩
              · cases hc
            · exact ⟨c, hc, rfl⟩
          obtain ⟨a', ha', na⟩ := key i a ha
          obtain ⟨b', hb', nb⟩ := key (i + 1) b hb
          have := chain_iff.1 a3 i a' b' ha' hb'
          rw [prpLt_iff] at this ⊢
          rw [← na, ← nb]; exact this
      | false =>
        rw [hh] at h
        simp only [Bool.false_eq_true, if_false] at h
        have hl : ¬ 8 ≤ r.length := fun hl => by rw [if_pos hl] at h; cases h
        rw [if_neg (by simp)]
        obtain ⟨b1, b2⟩ := low_parts (c := prpC p.name) a3 (prpC_mono p.name) hh (prp_hz p.name)
        refine rec_mk (by simp; have := lowI_le (prpC p.name) r; unfold rpos; omega) (fun x hx => ?_) ((chain_pw prpLt_tr).2 (pw_insert ((chain_pw prpLt_tr).1 a3) (fun d hd => ?_) (fun d hd => ?_)))
        · rcases mem_insert hx with rfl | hx
          · exact e2
          · exact a2 x hx
        · rw [prpLt_iff]; exact b1 d hd
        · rw [prpLt_iff, cmpS_anti]; have := b2 d hd; unfold prpC at this; omega
    · rw [if_neg e2] at h; exact absurd h e2
  · rw [if_neg e1] at h; exact absurd h e1
theorem unset_right {r : List Prp} {nm : ByteArray} (h : unsetE r nm = 0) : recE (unsetR r nm) = 0 := by
  have h0 := h
  unfold unsetE at h
  by_cases e1 : recE r = 0
  · obtain ⟨a1, a2, a3⟩ := rec_ok e1
    unfold unsetR
    rw [if_pos h0]
    exact rec_mk (Nat.le_trans (len_delete _ _) a1) (fun x hx => a2 x (mem_delete hx)) ((chain_pw prpLt_tr).2 (pw_delete ((chain_pw prpLt_tr).1 a3) _))
  · rw [if_neg e1] at h; exact absurd h e1
theorem put_right {g : Grf} (h : grfE g = 0) {id : Int} {r : List Prp} (hh : fhas g.nodes id = true) (hr : recE r = 0) : grfE ⟨putRec g.nodes (fpos g.nodes id) r, g.ties⟩ = 0 := by
  obtain ⟨h1, h2, h3, h4⟩ := grf_ok h
  obtain ⟨h5, h6⟩ := grf_ties h
  obtain ⟨n, hn⟩ := fhas_some' hh
  unfold putRec
  rw [hn]
  refine grf_mk (by simpa using h1) h2 ?_ (fun m hm => ?_) h5 h6
  · rw [chain_iff]
    intro i a b ha hb
    have key : ∀ (j : Nat) (c : Nod), (g.nodes.set (fpos g.nodes id) ⟨n.id, n.kind, r⟩)[j]? = some c → ∃ c', g.nodes[j]? = some c' ∧ c'.id = c.id := by
      intro j c hc
      rw [List.getElem?_set] at hc
      split at hc
      · rename_i hj
        subst hj
        split at hc
        · injection hc with hc; subst hc; exact ⟨n, hn, rfl⟩
        · cases hc
      · exact ⟨c, hc, rfl⟩
    obtain ⟨a', ha', na⟩ := key i a ha
    obtain ⟨b', hb', nb⟩ := key (i + 1) b hb
    have := chain_iff.1 h3 i a' b' ha' hb'
    unfold nodLt at this ⊢
    rw [← na, ← nb]; exact this
  · rcases List.mem_or_eq_of_mem_set hm with hm | rfl
    · exact h4 m hm
    · obtain ⟨k1, k2⟩ := h4 n (List.mem_of_getElem? hn)
      exact ⟨k1, nodE_put k2 hr⟩
theorem op_right {g : Grf} {o : Opr} (h : grfE g = 0) (ho : opE g o = 0) : grfE (opG g o) = 0 := by
  obtain ⟨h1, h2, h3, h4⟩ := grf_ok h
  obtain ⟨h5, h6⟩ := grf_ties h
  unfold opE at ho
  unfold opG
  by_cases w1 : o.what = 1
  · rw [if_pos w1] at ho ⊢
    unfold bornE at ho
    by_cases e1 : nodE o.node = 0
    · rw [if_pos e1] at ho
      cases hh : fhas g.nodes o.node.id with
      | true => rw [hh] at ho; simp at ho
      | false =>
        rw [hh] at ho
        simp only [Bool.false_eq_true, if_false] at ho
        have hl : ¬ 60 ≤ g.nodes.length := fun hl => by rw [if_pos hl] at ho; cases ho
        obtain ⟨b1, b2⟩ := low_parts (c := nodC o.node.id) h3 (nodC_mono o.node.id) hh (fun a b hab hb => by
          unfold nodLt at hab; unfold nodC at *
          have := of_decide_eq_true hab
          exact cmpI_neg.2 (by rw [← cmpI_zero.1 hb]; exact this))
        have hid : idB o.node.id = true := by
          unfold nodE at e1
          cases hb : idB o.node.id with
          | true => rfl
          | false => rw [hb] at e1; simp at e1
        unfold bornG
        refine grf_mk (by simp; have := lowI_le (nodC o.node.id) g.nodes; unfold fpos; omega) h2 ((chain_pw nodLt_tr).2 (pw_insert ((chain_pw nodLt_tr).1 h3) (fun d hd => ?_) (fun d hd => ?_))) (fun m hm => ?_) h5 h6
        · unfold nodLt; exact decide_eq_true (cmpI_neg.1 (b1 d hd))
        · unfold nodLt; exact decide_eq_true (cmpI_pos.1 (b2 d hd))
        · rcases mem_insert hm with rfl | hm
          · exact ⟨hid, e1⟩
          · exact h4 m hm
    · rw [if_neg e1] at ho; exact absurd ho e1
  rw [if_neg w1] at ho ⊢
  by_cases w2 : o.what = 2
  · rw [if_pos w2]
    unfold goneG
    exact grf_mk (Nat.le_trans (len_delete _ _) h1) (Nat.le_trans (List.length_filter_le _ _) h2) ((chain_pw nodLt_tr).2 (pw_delete ((chain_pw nodLt_tr).1 h3) _)) (fun m hm => h4 m (mem_delete hm))
      ((chain_pw tieLt_tr).2 (((chain_pw tieLt_tr).1 h5).filter _)) (fun t ht => h6 t (List.mem_filter.1 ht).1)
  rw [if_neg w2] at ho ⊢
  by_cases w3 : o.what = 3
  · rw [if_pos w3] at ho ⊢
    cases hh : fhas g.nodes o.node.id with
    | false => rw [hh] at ho; simp at ho
    | true =>
      rw [hh, if_pos rfl] at ho
      exact put_right h hh (set_right ho)
  rw [if_neg w3] at ho ⊢
  by_cases w4 : o.what = 4
  · rw [if_pos w4] at ho ⊢
    cases hh : fhas g.nodes o.node.id with
    | false => rw [hh] at ho; simp at ho
    | true =>
      rw [hh, if_pos rfl] at ho
      exact put_right h hh (unset_right ho)
  rw [if_neg w4] at ho ⊢
  by_cases w5 : o.what = 5
  · rw [if_pos w5] at ho ⊢
    by_cases e1 : tieE o.tie = 0
    · rw [if_pos e1] at ho
      cases hh : thas g.ties o.tie with
      | true => rw [hh] at ho; simp at ho
      | false =>
        rw [hh] at ho
        simp only [Bool.false_eq_true, if_false] at ho
        have hl : ¬ 120 ≤ g.ties.length := fun hl => by rw [if_pos hl] at ho; cases ho
        obtain ⟨b1, b2⟩ := low_parts (c := tieC o.tie) h5 (tieC_mono o.tie) hh (fun a b hab hb => by
          unfold tieLt at hab; unfold tieC at *
          rw [← tieO_zero.1 hb]; exact of_decide_eq_true hab)
        refine grf_mk h1 (by simp; have := lowI_le (tieC o.tie) g.ties; unfold tpos; omega) h3 h4 ((chain_pw tieLt_tr).2 (pw_insert ((chain_pw tieLt_tr).1 h5) (fun d hd => ?_) (fun d hd => ?_))) (fun t ht => ?_)
        · unfold tieLt; exact decide_eq_true (b1 d hd)
        · unfold tieLt; exact decide_eq_true (tieO_pos (b2 d hd))
        · rcases mem_insert ht with rfl | ht
          · exact e1
          · exact h6 t ht
    · rw [if_neg e1] at ho; exact absurd ho e1
  rw [if_neg w5] at ho ⊢
  by_cases w6 : o.what = 6
  · rw [if_pos w6]
    exact grf_mk h1 (Nat.le_trans (len_delete _ _) h2) h3 h4 ((chain_pw tieLt_tr).2 (pw_delete ((chain_pw tieLt_tr).1 h5) _)) (fun t ht => h6 t (mem_delete ht))
  · rw [if_neg w6] at ho; cases ho
/-- Ops one behind the other: the graph, the first that is wrong, and how. -/
def allG (g : Grf) : List Opr → Grf
  | [] => g
  | o :: r => if opE g o = 0 then allG (opG g o) r else ⟨[], []⟩
def allE (g : Grf) : List Opr → Int
  | [] => 0
  | o :: r => if opE g o = 0 then allE (opG g o) r else opE g o
theorem all_right : ∀ {l : List Opr} {g : Grf}, grfE g = 0 → allE g l = 0 → grfE (allG g l) = 0
  | [], _, h, _ => h
  | o :: r, g, h, he => by
    unfold allE at he
    unfold allG
    by_cases h0 : opE g o = 0
    · rw [if_pos h0] at he ⊢
      exact all_right (op_right h h0) he
    · rw [if_neg h0] at he; exact absurd he h0
end Go.Proofs.Ytfjnkidblalckaa

/- Plain: rows that are in one order; what each op does, as a set. No condition. -/
namespace Go.Proofs.Ytfjnkidblalckaa
open Go

/-! ### Rows in one strict order -/
section
variable {D : Type} {R : D → D → Prop}
theorem pw_ext (tr : ∀ a b c, R a b → R b c → R a c) (ir : ∀ a, ¬ R a a) : ∀ {l m : List D}, l.Pairwise R → m.Pairwise R → (∀ x, x ∈ l ↔ x ∈ m) → l = m
  | [], [], _, _, _ => rfl
  | [], y :: ys, _, _, h => by have := (h y).2 (by simp); simp at this
  | x :: xs, [], _, _, h => by have := (h x).1 (by simp); simp at this
  | x :: xs, y :: ys, hl, hm, h => by
    obtain ⟨l1, l2⟩ := List.pairwise_cons.1 hl
    obtain ⟨m1, m2⟩ := List.pairwise_cons.1 hm
    have hxy : x = y := by
      rcases List.mem_cons.1 ((h x).1 (by simp)) with e | h1
      · exact e
      · rcases List.mem_cons.1 ((h y).2 (by simp)) with e | h2
        · exact e.symm
        · exact absurd (tr _ _ _ (l1 y h2) (m1 x h1)) (ir x)
    subst hxy
    congr 1
    refine pw_ext tr ir l2 m2 fun z => ?_
    constructor
    · intro hz
      rcases List.mem_cons.1 ((h z).1 (by simp [hz])) with e | h1
      · subst e; exact absurd (l1 z hz) (ir z)
      · exact h1
    · intro hz
      rcases List.mem_cons.1 ((h z).2 (by simp [hz])) with e | h1
      · subst e; exact absurd (m1 z hz) (ir z)
      · exact h1
theorem pw_sub (tr : ∀ a b c, R a b → R b c → R a c) (ir : ∀ a, ¬ R a a) : ∀ {l m : List D}, l.Pairwise R → m.Pairwise R → (∀ x ∈ l, x ∈ m) → l.Sublist m
  | [], _, _, _, _ => List.nil_sublist _
  | x :: xs, [], _, _, h => by have := h x (by simp); simp at this
  | x :: xs, y :: ys, hl, hm, h => by
    obtain ⟨l1, l2⟩ := List.pairwise_cons.1 hl
    obtain ⟨m1, m2⟩ := List.pairwise_cons.1 hm
    rcases List.mem_cons.1 (h x (by simp)) with e | h1
    · subst e
      refine List.Sublist.cons_cons _ (pw_sub tr ir l2 m2 fun z hz => ?_)
      rcases List.mem_cons.1 (h z (by simp [hz])) with e | h2
      · subst e; exact absurd (l1 z hz) (ir z)
      · exact h2
    · refine List.Sublist.cons _ (pw_sub tr ir hl m2 fun z hz => ?_)
      rcases List.mem_cons.1 (h z hz) with e | h2
      · subst e
        rcases List.mem_cons.1 hz with e | hz
        · subst e; exact absurd (m1 z h1) (ir z)
        · exact absurd (tr _ _ _ (l1 z hz) (m1 x h1)) (ir x)
      · exact h2
theorem pw_short (tr : ∀ a b c, R a b → R b c → R a c) (ir : ∀ a, ¬ R a a) {l m : List D} (hl : l.Pairwise R) (hm : m.Pairwise R) (h : ∀ x ∈ l, x ∈ m) {y : D} (hy : y ∈ m) (hn : y ∉ l) : l.length < m.length := by
  have hs := pw_sub tr ir hl hm h
  rcases Nat.lt_or_ge l.length m.length with h1 | h1
  · exact h1
  · exact absurd (by rw [hs.eq_of_length (by have := hs.length_le; omega)]; exact hy) hn
theorem pw_erase (ir : ∀ a, ¬ R a a) {l : List D} (hl : l.Pairwise R) {i : Nat} {x : D} (hx : l[i]? = some x) (u : D) : u ∈ l.take i ++ l.drop (i + 1) ↔ u ∈ l ∧ u ≠ x := by
  have hi := (List.getElem?_eq_some_iff.1 hx).1
  have hd : l.drop i = x :: l.drop (i + 1) := drop_cons hx
  have hl0 := hl
  rw [← List.take_append_drop i l, hd, List.pairwise_append] at hl
  obtain ⟨_, p2, p3⟩ := hl
  obtain ⟨q1, _⟩ := List.pairwise_cons.1 p2
  have hm : u ∈ l ↔ u ∈ l.take i ∨ u = x ∨ u ∈ l.drop (i + 1) := by
    conv => lhs; rw [← List.take_append_drop i l, hd]
    simp
  rw [hm, List.mem_append]
  constructor
  · rintro (h | h)
    · exact ⟨.inl h, fun e => by subst e; exact ir u (p3 u h u (by simp))⟩
    · exact ⟨.inr (.inr h), fun e => by subst e; exact ir u (q1 u h)⟩
  · rintro ⟨h | h | h, hne⟩
    · exact .inl h
    · exact absurd h hne
    · exact .inr h
theorem mem_ins {l : List D} {i : Nat} {x : D} (u : D) : u ∈ l.take i ++ x :: l.drop i ↔ u ∈ l ∨ u = x := by
  have hm : u ∈ l ↔ u ∈ l.take i ∨ u ∈ l.drop i := by rw [← List.mem_append, List.take_append_drop]
  rw [hm]
  simp only [List.mem_append, List.mem_cons]
  constructor
  · rintro (h | h | h)
    · exact .inl (.inl h)
    · exact .inr h
    · exact .inl (.inr h)
  · rintro ((h | h) | h)
    · exact .inl h
    · exact .inr (.inr h)
    · exact .inr (.inl h)
end
theorem nodLt_ir : ∀ a, ¬ nodLt a a = true := by intro a h; unfold nodLt at h; simp at h
theorem tieLt_ir : ∀ a, ¬ tieLt a a = true := by
  intro a h
  unfold tieLt at h
  have h1 := of_decide_eq_true h
  have := (tieO_zero (a := a) (b := a)).2 rfl
  omega
theorem prpLt_ir : ∀ a, ¬ prpLt a a = true := by
  intro a h
  rw [prpLt_iff] at h
  have := (cmpS_zero (a := a.name) (b := a.name)).2 rfl
  omega
theorem nods_pw {g : Grf} (h : grfE g = 0) : g.nodes.Pairwise fun a b => nodLt a b = true := (chain_pw nodLt_tr).1 (grf_ok h).2.2.1
theorem ties_pw {g : Grf} (h : grfE g = 0) : g.ties.Pairwise fun a b => tieLt a b = true := (chain_pw tieLt_tr).1 (grf_ties h).1
theorem prps_pw {r : List Prp} (h : recE r = 0) : r.Pairwise fun a b => prpLt a b = true := (chain_pw prpLt_tr).1 (rec_ok h).2.2
/-- Right graphs with the same nodes and ties are one. -/
theorem grf_ext {a b : Grf} (ha : grfE a = 0) (hb : grfE b = 0) (h1 : ∀ n, n ∈ a.nodes ↔ n ∈ b.nodes) (h2 : ∀ t, t ∈ a.ties ↔ t ∈ b.ties) : a = b := by
  have e1 := pw_ext nodLt_tr nodLt_ir (nods_pw ha) (nods_pw hb) h1
  have e2 := pw_ext tieLt_tr tieLt_ir (ties_pw ha) (ties_pw hb) h2
  cases a; cases b
  simp only at e1 e2
  rw [e1, e2]
theorem id_uniq {g : Grf} (h : grfE g = 0) {m n : Nod} (hm : m ∈ g.nodes) (hn : n ∈ g.nodes) (e : m.id = n.id) : m = n := by
  obtain ⟨i, hi⟩ := List.mem_iff_getElem?.1 hm
  obtain ⟨j, hj⟩ := List.mem_iff_getElem?.1 hn
  have hc := (grf_ok h).2.2.1
  rcases Nat.lt_trichotomy i j with hl | hl | hl
  · have := chain_lt2 hc hl hi hj; omega
  · subst hl; rw [hi] at hj; injection hj
  · have := chain_lt2 hc hl hj hi; omega
theorem name_uniq {r : List Prp} (h : recE r = 0) {p q : Prp} (hp : p ∈ r) (hq : q ∈ r) (e : p.name = q.name) : p = q := by
  have hpw := prps_pw h
  obtain ⟨i, hi⟩ := List.mem_iff_getElem?.1 hp
  obtain ⟨j, hj⟩ := List.mem_iff_getElem?.1 hq
  obtain ⟨hil, rfl⟩ := List.getElem?_eq_some_iff.1 hi
  obtain ⟨hjl, rfl⟩ := List.getElem?_eq_some_iff.1 hj
  have h0 := (cmpS_zero (a := r[i].name) (b := r[j].name)).2 e
  have h1 := cmpS_anti r[i].name r[j].name
  rcases Nat.lt_trichotomy i j with hl | hl | hl
  · have := prpLt_iff.1 (List.pairwise_iff_getElem.1 hpw i j hil hjl hl); omega
  · subst hl; rfl
  · have := prpLt_iff.1 (List.pairwise_iff_getElem.1 hpw j i hjl hil hl); omega
/-! ### What is there, by name -/
theorem fhas_mem {g : Grf} (h : grfE g = 0) (id : Int) : fhas g.nodes id = true ↔ ∃ n ∈ g.nodes, n.id = id := by
  rw [fhas_any (grf_ok h).2.2.1, List.any_eq_true]
  simp
theorem fpos_of {g : Grf} (h : grfE g = 0) {n : Nod} (hn : n ∈ g.nodes) : fhas g.nodes n.id = true ∧ g.nodes[fpos g.nodes n.id]? = some n := by
  have hh := (fhas_mem h n.id).2 ⟨n, hn, rfl⟩
  refine ⟨hh, ?_⟩
  obtain ⟨m, hm⟩ := fhas_some' hh
  have h0 : nodC n.id m = 0 := by
    unfold fhas eqAt at hh
    rw [hm] at hh
    simpa using hh
  have : m.id = n.id := cmpI_zero.1 h0
  rw [hm, id_uniq h (List.mem_of_getElem? hm) hn this]
theorem thas_mem {g : Grf} (h : grfE g = 0) (t : Tie) : thas g.ties t = true ↔ t ∈ g.ties := by
  constructor
  · intro hh
    unfold thas eqAt at hh
    cases hm : g.ties[tpos g.ties t]? with
    | none => rw [hm] at hh; cases hh
    | some u =>
      rw [hm] at hh
      have : tieC t u = 0 := by simpa using hh
      rw [← tieO_zero.1 this]
      exact List.mem_of_getElem? hm
  · intro hm
    cases hq : thas g.ties t with
    | true => rfl
    | false =>
      obtain ⟨b1, b2⟩ := low_parts (c := tieC t) (grf_ties h).1 (tieC_mono t) hq (fun a b hab hb => by
        unfold tieLt at hab; unfold tieC at *
        rw [← tieO_zero.1 hb]; exact of_decide_eq_true hab)
      have h0 : tieC t t = 0 := tieO_zero.2 rfl
      rw [← List.take_append_drop (lowI (tieC t) g.ties) g.ties] at hm
      rcases List.mem_append.1 hm with hm | hm
      · have := b1 t hm; omega
      · have := b2 t hm; omega
theorem tpos_of {g : Grf} (h : grfE g = 0) {t : Tie} (ht : t ∈ g.ties) : g.ties[tpos g.ties t]? = some t := by
  have hh := (thas_mem h t).2 ht
  unfold thas eqAt at hh
  cases hm : g.ties[tpos g.ties t]? with
  | none => rw [hm] at hh; cases hh
  | some u =>
    rw [hm] at hh
    have : tieC t u = 0 := by simpa using hh
    rw [tieO_zero.1 this]
theorem rhas_mem {r : List Prp} (h : recE r = 0) (nm : ByteArray) : rhas r nm = true ↔ ∃ p ∈ r, p.name = nm := by
  constructor
  · intro hh
    obtain ⟨p, hp⟩ := rhas_some hh
    refine ⟨p, List.mem_of_getElem? hp, ?_⟩
    unfold rhas eqAt at hh
    rw [hp] at hh
    have : prpC nm p = 0 := by simpa using hh
    exact cmpS_zero.1 this
  · rintro ⟨p, hp, rfl⟩
    cases hq : rhas r p.name with
    | true => rfl
    | false =>
      obtain ⟨b1, b2⟩ := low_parts (c := prpC p.name) (rec_ok h).2.2 (prpC_mono p.name) hq (prp_hz p.name)
      have h0 : prpC p.name p = 0 := cmpS_zero.2 rfl
      rw [← List.take_append_drop (lowI (prpC p.name) r) r] at hp
      rcases List.mem_append.1 hp with hm | hm
      · have := b1 p hm; omega
      · have := b2 p hm; omega
theorem rpos_of {r : List Prp} (h : recE r = 0) {p : Prp} (hp : p ∈ r) : r[rpos r p.name]? = some p := by
  have hh := (rhas_mem h p.name).2 ⟨p, hp, rfl⟩
  obtain ⟨q, hq⟩ := rhas_some hh
  have hh2 := hh
  unfold rhas eqAt at hh2
  rw [hq] at hh2
  have : prpC p.name q = 0 := by simpa using hh2
  rw [hq, name_uniq h (List.mem_of_getElem? hq) hp (cmpS_zero.1 this)]
end Go.Proofs.Ytfjnkidblalckaa

/- Plain: what each op does to a right graph, as a set of nodes and ties. No condition. -/
namespace Go.Proofs.Ytfjnkidblalckaa
open Go

def looseOpr (t : Tie) : Opr := ⟨6, ⟨0, .empty, []⟩, ⟨.empty, ⟨0, 0, .empty⟩⟩, t⟩
def bindOpr (t : Tie) : Opr := ⟨5, ⟨0, .empty, []⟩, ⟨.empty, ⟨0, 0, .empty⟩⟩, t⟩
def goneOpr (id : Int) : Opr := ⟨2, ⟨id, .empty, []⟩, ⟨.empty, ⟨0, 0, .empty⟩⟩, ⟨.empty, 0, 0⟩⟩
def newOpr (n : Nod) : Opr := ⟨1, n, ⟨.empty, ⟨0, 0, .empty⟩⟩, ⟨.empty, 0, 0⟩⟩
def setOpr (id : Int) (p : Prp) : Opr := ⟨3, ⟨id, .empty, []⟩, p, ⟨.empty, 0, 0⟩⟩
def unsetOpr (id : Int) (nm : ByteArray) : Opr := ⟨4, ⟨id, .empty, []⟩, ⟨nm, ⟨0, 0, .empty⟩⟩, ⟨.empty, 0, 0⟩⟩
theorem loose_op {g : Grf} (h : grfE g = 0) {t : Tie} (ht : t ∈ g.ties) : opE g (looseOpr t) = 0 ∧ (opG g (looseOpr t)).nodes = g.nodes ∧ ∀ u, u ∈ (opG g (looseOpr t)).ties ↔ u ∈ g.ties ∧ u ≠ t := by
  have hE : opE g (looseOpr t) = if thas g.ties t then 0 else 5 := rfl
  have hG : opG g (looseOpr t) = ⟨g.nodes, g.ties.take (tpos g.ties t) ++ g.ties.drop (tpos g.ties t + 1)⟩ := rfl
  refine ⟨by rw [hE, (thas_mem h t).2 ht]; rfl, by rw [hG], fun u => ?_⟩
  rw [hG]
  exact pw_erase tieLt_ir (ties_pw h) (tpos_of h ht) u
theorem bind_op {g : Grf} (h : grfE g = 0) {t : Tie} (ht : t ∉ g.ties) (hl : g.ties.length < 120) (he : tieE t = 0) : opE g (bindOpr t) = 0 ∧ (opG g (bindOpr t)).nodes = g.nodes ∧ ∀ u, u ∈ (opG g (bindOpr t)).ties ↔ u ∈ g.ties ∨ u = t := by
  have hE : opE g (bindOpr t) = if tieE t = 0 then (if thas g.ties t then 7 else if 120 ≤ g.ties.length then 4 else 0) else tieE t := rfl
  have hG : opG g (bindOpr t) = ⟨g.nodes, g.ties.take (tpos g.ties t) ++ t :: g.ties.drop (tpos g.ties t)⟩ := rfl
  have hno : thas g.ties t = false := by
    cases hq : thas g.ties t with
    | false => rfl
    | true => exact absurd ((thas_mem h t).1 hq) ht
  refine ⟨by rw [hE, if_pos he, hno, if_neg (by simp), if_neg (by omega)], by rw [hG], fun u => ?_⟩
  rw [hG]
  exact mem_ins u
theorem gone_op {g : Grf} (h : grfE g = 0) {id : Int} (hi : ∃ n ∈ g.nodes, n.id = id) : opE g (goneOpr id) = 0 ∧ (∀ m, m ∈ (opG g (goneOpr id)).nodes ↔ m ∈ g.nodes ∧ m.id ≠ id) ∧ ∀ u, u ∈ (opG g (goneOpr id)).ties ↔ u ∈ g.ties ∧ u.src ≠ id ∧ u.dst ≠ id := by
  have hE : opE g (goneOpr id) = if fhas g.nodes id then 0 else 5 := rfl
  have hG : opG g (goneOpr id) = ⟨g.nodes.take (fpos g.nodes id) ++ g.nodes.drop (fpos g.nodes id + 1), g.ties.filter fun t => !touch id t⟩ := rfl
  refine ⟨by rw [hE, (fhas_mem h id).2 hi]; rfl, fun m => ?_, fun u => ?_⟩
  · obtain ⟨n, hn, rfl⟩ := hi
    rw [hG]
    refine (pw_erase nodLt_ir (nods_pw h) (fpos_of h hn).2 m).trans ⟨fun ⟨h1, h2⟩ => ⟨h1, fun e => h2 (id_uniq h h1 hn e)⟩, fun ⟨h1, h2⟩ => ⟨h1, fun e => h2 (by rw [e])⟩⟩
  · rw [hG]
    simp only [List.mem_filter, touch, Bool.not_or, Bool.and_eq_true, Bool.not_eq_true', beq_eq_false_iff_ne, ne_eq]
theorem new_op {g : Grf} (h : grfE g = 0) {n : Nod} (hi : ∀ m ∈ g.nodes, m.id ≠ n.id) (hl : g.nodes.length < 60) (he : nodE n = 0) : opE g (newOpr n) = 0 ∧ (∀ m, m ∈ (opG g (newOpr n)).nodes ↔ m ∈ g.nodes ∨ m = n) ∧ (opG g (newOpr n)).ties = g.ties := by
  have hE : opE g (newOpr n) = if nodE n = 0 then (if fhas g.nodes n.id then 7 else if 60 ≤ g.nodes.length then 4 else 0) else nodE n := rfl
  have hG : opG g (newOpr n) = ⟨g.nodes.take (fpos g.nodes n.id) ++ n :: g.nodes.drop (fpos g.nodes n.id), g.ties⟩ := rfl
  have hno : fhas g.nodes n.id = false := by
    cases hq : fhas g.nodes n.id with
    | false => rfl
    | true =>
      obtain ⟨m, hm, e⟩ := (fhas_mem h n.id).1 hq
      exact absurd e (hi m hm)
  refine ⟨by rw [hE, if_pos he, hno, if_neg (by simp), if_neg (by omega)], fun m => ?_, by rw [hG]⟩
  rw [hG]
  exact mem_ins m
theorem putRec_mem {g : Grf} (h : grfE g = 0) {n : Nod} (hn : n ∈ g.nodes) (r : List Prp) (m : Nod) : m ∈ putRec g.nodes (fpos g.nodes n.id) r ↔ (m ∈ g.nodes ∧ m.id ≠ n.id) ∨ m = ⟨n.id, n.kind, r⟩ := by
  obtain ⟨_, hp⟩ := fpos_of h hn
  unfold putRec
  rw [hp]
  have hi := (List.getElem?_eq_some_iff.1 hp).1
  generalize fpos g.nodes n.id = i at *
  constructor
  · intro hm
    obtain ⟨j, hj⟩ := List.mem_iff_getElem?.1 hm
    rw [List.getElem?_set] at hj
    split at hj
    · injection hj with hj; exact .inr hj.symm
    · rename_i hne
      refine .inl ⟨List.mem_of_getElem? hj, fun e => hne ?_⟩
      have hc := (grf_ok h).2.2.1
      rcases Nat.lt_trichotomy i j with hl | hl | hl
      · have := chain_lt2 hc hl hp hj; omega
      · exact hl
      · have := chain_lt2 hc hl hj hp; omega
  · rintro (⟨hm, hne⟩ | rfl)
    · obtain ⟨j, hj⟩ := List.mem_iff_getElem?.1 hm
      refine List.mem_iff_getElem?.2 ⟨j, ?_⟩
      rw [List.getElem?_set]
      rw [if_neg (fun e => by subst e; rw [hp] at hj; injection hj with hj; exact hne (by rw [hj]))]
      exact hj
    · refine List.mem_iff_getElem?.2 ⟨i, ?_⟩
      rw [List.getElem?_set_self hi]
theorem recAt_of {g : Grf} (h : grfE g = 0) {n : Nod} (hn : n ∈ g.nodes) : recAt g.nodes n.id = n.props := by
  unfold recAt; rw [(fpos_of h hn).2]
theorem set_op {g : Grf} (h : grfE g = 0) {n : Nod} (hn : n ∈ g.nodes) {p : Prp} (he : setE n.props p = 0) : opE g (setOpr n.id p) = 0 ∧ (∀ m, m ∈ (opG g (setOpr n.id p)).nodes ↔ (m ∈ g.nodes ∧ m.id ≠ n.id) ∨ m = ⟨n.id, n.kind, setR n.props p⟩) ∧ (opG g (setOpr n.id p)).ties = g.ties := by
  have hE : opE g (setOpr n.id p) = if fhas g.nodes n.id then setE (recAt g.nodes n.id) p else 5 := rfl
  have hG : opG g (setOpr n.id p) = ⟨putRec g.nodes (fpos g.nodes n.id) (setR (recAt g.nodes n.id) p), g.ties⟩ := rfl
  rw [recAt_of h hn] at hE hG
  exact ⟨by rw [hE, (fpos_of h hn).1, if_pos rfl, he], fun m => by rw [hG]; exact putRec_mem h hn _ m, by rw [hG]⟩
theorem unset_op {g : Grf} (h : grfE g = 0) {n : Nod} (hn : n ∈ g.nodes) {nm : ByteArray} (he : unsetE n.props nm = 0) : opE g (unsetOpr n.id nm) = 0 ∧ (∀ m, m ∈ (opG g (unsetOpr n.id nm)).nodes ↔ (m ∈ g.nodes ∧ m.id ≠ n.id) ∨ m = ⟨n.id, n.kind, unsetR n.props nm⟩) ∧ (opG g (unsetOpr n.id nm)).ties = g.ties := by
  have hE : opE g (unsetOpr n.id nm) = if fhas g.nodes n.id then unsetE (recAt g.nodes n.id) nm else 5 := rfl
  have hG : opG g (unsetOpr n.id nm) = ⟨putRec g.nodes (fpos g.nodes n.id) (unsetR (recAt g.nodes n.id) nm), g.ties⟩ := rfl
  rw [recAt_of h hn] at hE hG
  exact ⟨by rw [hE, (fpos_of h hn).1, if_pos rfl, he], fun m => by rw [hG]; exact putRec_mem h hn _ m, by rw [hG]⟩
/-! ### Records, as sets -/
theorem unset_rec {r : List Prp} (h : recE r = 0) {p : Prp} (hp : p ∈ r) : unsetE r p.name = 0 ∧ ∀ q, q ∈ unsetR r p.name ↔ q ∈ r ∧ q.name ≠ p.name := by
  have hE : unsetE r p.name = 0 := by unfold unsetE; rw [if_pos h, (rhas_mem h p.name).2 ⟨p, hp, rfl⟩]; rfl
  refine ⟨hE, fun q => ?_⟩
  unfold unsetR
  rw [if_pos hE]
  refine (pw_erase prpLt_ir (prps_pw h) (rpos_of h hp) q).trans ⟨fun ⟨h1, h2⟩ => ⟨h1, fun e => h2 (name_uniq h h1 hp e)⟩, fun ⟨h1, h2⟩ => ⟨h1, fun e => h2 (by rw [e])⟩⟩
theorem set_rec {r : List Prp} (h : recE r = 0) {p : Prp} (he : prpE p = 0) (hl : (∃ q ∈ r, q.name = p.name) ∨ r.length < 8) : setE r p = 0 ∧ ∀ q, q ∈ setR r p ↔ (q ∈ r ∧ q.name ≠ p.name) ∨ q = p := by
  cases hh : rhas r p.name with
  | true =>
    have hE : setE r p = 0 := by unfold setE; rw [if_pos h, if_pos he, hh]; rfl
    refine ⟨hE, fun q => ?_⟩
    obtain ⟨x, hx, hxn⟩ := (rhas_mem h p.name).1 hh
    have hpos := rpos_of h hx
    rw [hxn] at hpos
    unfold setR putP
    rw [if_pos hE, hh, if_pos rfl]
    have hi := (List.getElem?_eq_some_iff.1 hpos).1
    generalize rpos r p.name = i at *
    constructor
    · intro hm
      obtain ⟨j, hj⟩ := List.mem_iff_getElem?.1 hm
      rw [List.getElem?_set] at hj
      split at hj
      · injection hj with hj; exact .inr hj.symm
      · rename_i hne
        refine .inl ⟨List.mem_of_getElem? hj, fun e => hne ?_⟩
        have hq := List.mem_of_getElem? hj
        have heq : q = x := name_uniq h hq hx (by rw [e, hxn])
        subst heq
        have hpw := prps_pw h
        obtain ⟨hjl, ej⟩ := List.getElem?_eq_some_iff.1 hj
        obtain ⟨hil, ei⟩ := List.getElem?_eq_some_iff.1 hpos
        rcases Nat.lt_trichotomy i j with hl | hl | hl
        · have := List.pairwise_iff_getElem.1 hpw i j hil hjl hl
          rw [ei, ej] at this; exact absurd this (prpLt_ir q)
        · exact hl
        · have := List.pairwise_iff_getElem.1 hpw j i hjl hil hl
          rw [ei, ej] at this; exact absurd this (prpLt_ir q)
    · rintro (⟨hm, hne⟩ | rfl)
      · obtain ⟨j, hj⟩ := List.mem_iff_getElem?.1 hm
        refine List.mem_iff_getElem?.2 ⟨j, ?_⟩
        rw [List.getElem?_set]
        rw [if_neg (fun e => by subst e; rw [hpos] at hj; injection hj with hj; exact hne (by rw [← hj, hxn]))]
        exact hj
      · refine List.mem_iff_getElem?.2 ⟨i, ?_⟩
        rw [List.getElem?_set_self hi]
  | false =>
    have hno : ∀ q ∈ r, q.name ≠ p.name := fun q hq e => by
      have := (rhas_mem h p.name).2 ⟨q, hq, e⟩
      rw [hh] at this; cases this
    have hl8 : r.length < 8 := by
      rcases hl with ⟨q, hq, e⟩ | hl
      · exact absurd e (hno q hq)
      · exact hl
    have hE : setE r p = 0 := by unfold setE; rw [if_pos h, if_pos he, hh, if_neg (by simp), if_neg (by omega)]
    refine ⟨hE, fun q => ?_⟩
    unfold setR putP
    rw [if_pos hE, hh, if_neg (by simp)]
    refine (mem_ins q).trans ⟨?_, ?_⟩
    · rintro (h1 | h1)
      · exact .inl ⟨h1, hno q h1⟩
      · exact .inr h1
    · rintro (h1 | h1)
      · exact .inl h1.1
      · exact .inr h1
end Go.Proofs.Ytfjnkidblalckaa
