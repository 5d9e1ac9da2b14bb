/- Parts: OpR, DbP, RsP, Qr, KinA, KinB, KinC, KinD, KinE, KinF, KinG, KinP, Eqs, KinH, KinI, KinJ, KinK, KinL, SamA, RefA. -/
import Derived.Test.YtngbbefpphinjaaGreatDoorMg05
import Derived.Sort.BigQuietIn
import Derived.Test.YtngbbefpphinjaaGreatDoorMg01
import Derived.Test.YtngbbefpphinjaaGreatDoorMg03
import Derived.Maps.OwnIn
import Derived.Maps.Views
import Derived.StringKeys
import Derived.Test.YtngbbefpphinjaaGreatDoorRows
import Derived.RangeFuncNested
import Derived.RangeFuncBound
import Derived.RangeFuncCalls
import Derived.RangeFuncLeaves
import Derived.RangeFuncBox
import Derived.RangeFuncWrites
import Derived.Shelf.Abstract
import Derived.OwnWalkIn
import Derived.TacticsInMore
import Derived.LoopNIn
import Derived.LoopIn
import Derived.Test.YtngbbefpphinjaaGreatDoorMg04
import Derived.Laws.StructEq
import Derived.Deep.RegionHeld3
/- Plain: an op on a right graph, if it is no fault, makes a right graph. No condition. -/
namespace Go.Proofs.YtngbbefpphinjaaGreatDoor
open Go

theorem chain_pw {D : Type} {R : D → D → Bool} (tr : ∀ a b c, R a b = true → R b c = true → R a c = true) : ∀ {l : List D}, chain R l = true ↔ l.Pairwise fun a b => R a b = true
  | [] => by simp [chain]
  | [a] => by simp [chain]
  | a :: b :: r => by
    have ih := chain_pw tr (l := b :: r)
    rw [chain, Bool.and_eq_true, ih]
    constructor
    · rintro ⟨h1, h2⟩
      refine List.pairwise_cons.2 ⟨fun x hx => ?_, h2⟩
      rcases List.mem_cons.1 hx with rfl | hx
      · exact h1
      · exact tr a b x h1 ((List.pairwise_cons.1 h2).1 x hx)
    · intro h
      obtain ⟨h1, h2⟩ := List.pairwise_cons.1 h
      exact ⟨h1 b (by simp), h2⟩
theorem pw_insert {D : Type} {R : D → D → Prop} {l : List D} {i : Nat} {x : D} (h : l.Pairwise R) (h1 : ∀ d ∈ l.take i, R d x) (h2 : ∀ d ∈ l.drop i, R x d) : (l.take i ++ x :: l.drop i).Pairwise R := by
  rw [List.pairwise_append]
  refine ⟨h.sublist (List.take_sublist _ _), List.pairwise_cons.2 ⟨h2, h.sublist (List.drop_sublist _ _)⟩, fun a ha b hb => ?_⟩
  rcases List.mem_cons.1 hb with rfl | hb
  · exact h1 a ha
  · rw [← List.take_append_drop i l, List.pairwise_append] at h
    exact h.2.2 a ha b hb
theorem pw_delete {D : Type} {R : D → D → Prop} {l : List D} (h : l.Pairwise R) (i : Nat) : (l.take i ++ l.drop (i + 1)).Pairwise R := by
  rw [← List.eraseIdx_eq_take_drop_succ]
  exact h.sublist (List.eraseIdx_sublist _ _)
theorem mem_delete {D : Type} {l : List D} {i : Nat} {x : D} (h : x ∈ l.take i ++ l.drop (i + 1)) : x ∈ l := by
  rcases List.mem_append.1 h with h | h
  · exact List.mem_of_mem_take h
  · exact List.mem_of_mem_drop h
theorem len_delete {D : Type} (l : List D) (i : Nat) : (l.take i ++ l.drop (i + 1)).length ≤ l.length := by simp; omega
theorem mem_insert {D : Type} {l : List D} {i : Nat} {x y : D} (h : y ∈ l.take i ++ x :: l.drop i) : y = x ∨ y ∈ l := by
  rcases List.mem_append.1 h with h | h
  · exact .inr (List.mem_of_mem_take h)
  · rcases List.mem_cons.1 h with h | h
    · exact .inl h
    · exact .inr (List.mem_of_mem_drop h)
/-- What stands ahead of a place in a row, and behind it. -/
theorem low_parts {D : Type} {R : D → D → Bool} {c : D → Int} {l : List D} (hc : chain R l = true) (mono : ∀ a b, R a b = true → 0 ≤ c a → 0 ≤ c b) (hno : eqAt c l (lowI c l) = false)
    (hz : ∀ a b, R a b = true → c b = 0 → c a < 0) : (∀ d ∈ l.take (lowI c l), c d < 0) ∧ ∀ d ∈ l.drop (lowI c l), 0 < c d := by
  constructor
  · intro d hd
    obtain ⟨i, hi⟩ := List.mem_iff_getElem?.1 hd
    rw [List.getElem?_take] at hi
    split at hi
    · rename_i h; exact low_lt h hi
    · cases hi
  · intro d hd
    obtain ⟨i, hi⟩ := List.mem_iff_getElem?.1 hd
    rw [List.getElem?_drop] at hi
    have h0 := low_ge (c := c) hc mono (by omega) hi
    by_cases h1 : 0 < c d
    · exact h1
    · have hd0 : c d = 0 := by omega
      rcases Nat.eq_zero_or_pos i with rfl | hp
      · unfold eqAt at hno
        rw [Nat.add_zero] at hi
        rw [hi] at hno
        simp [hd0] at hno
      · have hil := (List.getElem?_eq_some_iff.1 hi).1
        have hm : l[lowI c l]? = some (l[lowI c l]'(by omega)) := List.getElem?_eq_getElem _
        have h2 := low_ge (c := c) hc mono (Nat.le_refl _) hm
        have h3 : 0 < c (l[lowI c l]'(by omega)) := by
          unfold eqAt at hno
          rw [hm] at hno
          have : ¬ c (l[lowI c l]'(by omega)) = 0 := by simpa using hno
          omega
        have key : ∀ (k : Nat) e, l[lowI c l + k]? = some e → 0 < c e := by
          intro k
          induction k with
          | zero => intro e he; rw [Nat.add_zero, hm] at he; injection he with he; subst he; exact h3
          | succ k ih =>
            intro e he
            have hl := (List.getElem?_eq_some_iff.1 he).1
            have hp' : l[lowI c l + k]? = some (l[lowI c l + k]'(by omega)) := List.getElem?_eq_getElem _
            have h4 := ih _ hp'
            have h5 := chain_iff.1 hc (lowI c l + k) _ e hp' (by rw [← he]; rfl)
            have h6 := mono _ _ h5 (by omega)
            by_cases h7 : c e = 0
            · have := hz _ _ h5 h7; omega
            · omega
        exact key i d hi
theorem cmpI_pos {a b : Int} : 0 < cmpI a b ↔ b < a := by unfold cmpI; split <;> (try split) <;> omega
theorem nodLt_tr : ∀ a b c, nodLt a b = true → nodLt b c = true → nodLt a c = true := by
  intro a b c h k
  unfold nodLt at *
  simp only [decide_eq_true_eq] at *
  omega
theorem tieLt_tr : ∀ a b c, tieLt a b = true → tieLt b c = true → tieLt a c = true := by
  intro a b c h k
  unfold tieLt at *
  simp only [decide_eq_true_eq] at *
  exact tieO_trans h k
theorem prpLt_iff {a b : Prp} : prpLt a b = true ↔ cmpS a.name b.name < 0 := by
  unfold prpLt; rw [ltS_cmp]; simp
theorem prpLt_tr : ∀ a b c, prpLt a b = true → prpLt b c = true → prpLt a c = true := by
  intro a b c h k
  rw [prpLt_iff] at *
  exact cmpS_trans h k
theorem tieO_pos {a b : Tie} (h : 0 < tieO a b) : tieO b a < 0 := by
  rw [tieO_neg]
  have h0 := @cmpS_zero a.bond b.bond
  have ha := cmpS_anti a.bond b.bond
  have h1 := @cmpI_pos a.src b.src
  have h2 := @cmpI_zero a.src b.src
  have h3 := @cmpI_pos a.dst b.dst
  unfold tieO orI at h
  by_cases e1 : cmpS a.bond b.bond = 0
  · rw [if_pos e1] at h
    unfold orI at h
    by_cases e2 : cmpI a.src b.src = 0
    · rw [if_pos e2] at h
      unfold orI orI at h
      by_cases e3 : cmpI a.dst b.dst = 0
      · rw [if_pos e3] at h; omega
      · rw [if_neg e3] at h
        exact .inr ⟨(h0.1 e1).symm, .inr ⟨(h2.1 e2).symm, h3.1 h⟩⟩
    · rw [if_neg e2] at h
      exact .inr ⟨(h0.1 e1).symm, .inl (h1.1 h)⟩
  · rw [if_neg e1] at h
    exact .inl (by omega)
/-! ### What makes a graph right -/
def clashN (p : Option Nod) (n : Nod) : Bool := match p with | some q => decide (n.id ≤ q.id) | none => false
def clashT (p : Option Tie) (t : Tie) : Bool := match p with | some q => decide (0 ≤ tieO q t) | none => false
theorem nodsE_mk : ∀ {l : List Nod} {p : Option Nod}, (∀ n ∈ l, idB n.id = true ∧ nodE n = 0) → chain nodLt l = true → (∀ a b, p = some a → l.head? = some b → nodLt a b = true) → nodsE p l = 0
  | [], p, _, _, _ => by cases p <;> rfl
  | n :: r, p, h, hc, hp => by
    obtain ⟨h1, h2⟩ := h n (by simp)
    have e : nodsE p (n :: r) = if idB n.id = false then 1 else if clashN p n then 7 else if nodE n = 0 then nodsE (some n) r else nodE n := by cases p <;> rfl
    have hno : clashN p n = false := by
      clear e
      cases p with
      | none => rfl
      | some q =>
        have := hp q n rfl rfl
        unfold nodLt at this
        have := of_decide_eq_true this
        exact decide_eq_false (by omega)
    rw [e, if_neg (by simp [h1]), hno, if_neg (by simp), if_pos h2]
    refine nodsE_mk (fun m hm => h m (by simp [hm])) ?_ (fun a b ha hb => ?_)
    · cases r with
      | nil => rfl
      | cons b r => simp only [chain, Bool.and_eq_true] at hc; exact hc.2
    · cases ha
      cases r with
      | nil => cases hb
      | cons b' r => simp at hb; subst hb; simp only [chain, Bool.and_eq_true] at hc; exact hc.1
theorem tiesE_mk : ∀ {l : List Tie} {p : Option Tie}, (∀ t ∈ l, tieE t = 0) → chain tieLt l = true → (∀ a b, p = some a → l.head? = some b → tieLt a b = true) → tiesE p l = 0
  | [], p, _, _, _ => by cases p <;> rfl
  | t :: r, p, h, hc, hp => by
    have h1 := h t (by simp)
    have e : tiesE p (t :: r) = if tieE t = 0 then (if clashT p t then 7 else tiesE (some t) r) else tieE t := by cases p <;> rfl
    have hno : clashT p t = false := by
      clear e
      cases p with
      | none => rfl
      | some q =>
        have := hp q t rfl rfl
        unfold tieLt at this
        have := of_decide_eq_true this
        exact decide_eq_false (by omega)
    rw [e, if_pos h1, hno, if_neg (by simp)]
    refine tiesE_mk (fun m hm => h m (by simp [hm])) ?_ (fun a b ha hb => ?_)
    · cases r with
      | nil => rfl
      | cons b r => simp only [chain, Bool.and_eq_true] at hc; exact hc.2
    · cases ha
      cases r with
      | nil => cases hb
      | cons b' r => simp at hb; subst hb; simp only [chain, Bool.and_eq_true] at hc; exact hc.1
theorem grf_mk {g : Grf} (h1 : g.nodes.length ≤ 60) (h2 : g.ties.length ≤ 120) (h3 : chain nodLt g.nodes = true) (h4 : ∀ n ∈ g.nodes, idB n.id = true ∧ nodE n = 0) (h5 : chain tieLt g.ties = true) (h6 : ∀ t ∈ g.ties, tieE t = 0) : grfE g = 0 := by
  unfold grfE
  rw [if_neg (by omega), nodsE_mk (p := none) h4 h3 (fun a b ha => by cases ha), if_pos rfl, tiesE_mk (p := none) h6 h5 (fun a b ha => by cases ha)]
theorem firstE_mk {D : Type} {f : D → Int} : ∀ {l : List D}, (∀ d ∈ l, f d = 0) → firstE f l = 0
  | [], _ => rfl
  | d :: r, h => by rw [firstE, if_pos (h d (by simp))]; exact firstE_mk fun x hx => h x (by simp [hx])
theorem rec_mk {r : List Prp} (h1 : r.length ≤ 8) (h2 : ∀ p ∈ r, prpE p = 0) (h3 : chain prpLt r = true) : recE r = 0 := by
  have h3 : chain (fun a b : Prp => ltS a.name b.name) r = true := h3
  unfold recE
  rw [if_neg (by omega), if_pos (firstE_mk h2), h3]; rfl
theorem nodE_put {n : Nod} {r : List Prp} (h : nodE n = 0) (hr : recE r = 0) : nodE ⟨n.id, n.kind, r⟩ = 0 := by
  unfold nodE at h ⊢
  by_cases h1 : idB n.id = false
  · rw [if_pos h1] at h; cases h
  · rw [if_neg h1] at h ⊢
    by_cases h2 : nameE n.kind = 0
    · rw [if_pos h2]; exact hr
    · rw [if_neg h2] at h; exact absurd h h2
/-! ### Records -/
theorem prp_hz (nm : ByteArray) : ∀ a b, prpLt a b = true → prpC nm b = 0 → prpC nm a < 0 := by
  intro a b h k
  rw [prpLt_iff] at h
  unfold prpC at *
  rw [← cmpS_zero.1 k]
  exact h
theorem set_right {r : List Prp} {p : Prp} (h : setE r p = 0) : recE (setR r p) = 0 := by
  have h0 := h
  unfold setE at h
  by_cases e1 : recE r = 0
  · rw [if_pos e1] at h
    by_cases e2 : prpE p = 0
    · rw [if_pos e2] at h
      obtain ⟨a1, a2, a3⟩ := rec_ok e1
      unfold setR
      rw [if_pos h0]
      unfold putP
      cases hh : rhas r p.name with
      | true =>
        rw [if_pos rfl]
        obtain ⟨q, hq⟩ := rhas_some hh
        have hqn : q.name = p.name := by
          unfold rhas eqAt at hh
          rw [hq] at hh
          have : prpC p.name q = 0 := by simpa using hh
          exact cmpS_zero.1 this
        refine rec_mk (by simpa using a1) (fun x hx => ?_) ?_
        · rcases List.mem_or_eq_of_mem_set hx with hx | rfl
          · exact a2 x hx
          · exact e2
        · rw [chain_iff]
          intro i a b ha hb
          have key : ∀ (j : Nat) (c : Prp), (r.set (rpos r p.name) p)[j]? = some c → ∃ c', r[j]? = some c' ∧ c'.name = c.name := by
            intro j c hc
            rw [List.getElem?_set] at hc
            split at hc
            · rename_i hj
              subst hj
              split at hc
              · injection hc with hc; subst hc; exact ⟨q, hq, hqn⟩
              · cases hc
            · exact ⟨c, hc, rfl⟩
          obtain ⟨a', ha', na⟩ := key i a ha
          obtain ⟨b', hb', nb⟩ := key (i + 1) b hb
          have := chain_iff.1 a3 i a' b' ha' hb'
          rw [prpLt_iff] at this ⊢
          rw [← na, ← nb]; exact this
      | false =>
        rw [hh] at h
        simp only [Bool.false_eq_true, if_false] at h
        have hl : ¬ 8 ≤ r.length := fun hl => by rw [if_pos hl] at h; cases h
        rw [if_neg (by simp)]
        obtain ⟨b1, b2⟩ := low_parts (c := prpC p.name) a3 (prpC_mono p.name) hh (prp_hz p.name)
        refine rec_mk (by simp; have := lowI_le (prpC p.name) r; unfold rpos; omega) (fun x hx => ?_) ((chain_pw prpLt_tr).2 (pw_insert ((chain_pw prpLt_tr).1 a3) (fun d hd => ?_) (fun d hd => ?_)))
        · rcases mem_insert hx with rfl | hx
          · exact e2
          · exact a2 x hx
        · rw [prpLt_iff]; exact b1 d hd
        · rw [prpLt_iff, cmpS_anti]; have := b2 d hd; unfold prpC at this; omega
    · rw [if_neg e2] at h; exact absurd h e2
  · rw [if_neg e1] at h; exact absurd h e1
theorem unset_right {r : List Prp} {nm : ByteArray} (h : unsetE r nm = 0) : recE (unsetR r nm) = 0 := by
  have h0 := h
  unfold unsetE at h
  by_cases e1 : recE r = 0
  · obtain ⟨a1, a2, a3⟩ := rec_ok e1
    unfold unsetR
    rw [if_pos h0]
    exact rec_mk (Nat.le_trans (len_delete _ _) a1) (fun x hx => a2 x (mem_delete hx)) ((chain_pw prpLt_tr).2 (pw_delete ((chain_pw prpLt_tr).1 a3) _))
  · rw [if_neg e1] at h; exact absurd h e1
theorem put_right {g : Grf} (h : grfE g = 0) {id : Int} {r : List Prp} (hh : fhas g.nodes id = true) (hr : recE r = 0) : grfE ⟨putRec g.nodes (fpos g.nodes id) r, g.ties⟩ = 0 := by
  obtain ⟨h1, h2, h3, h4⟩ := grf_ok h
  obtain ⟨h5, h6⟩ := grf_ties h
  obtain ⟨n, hn⟩ := fhas_some' hh
  unfold putRec
  rw [hn]
  refine grf_mk (by simpa using h1) h2 ?_ (fun m hm => ?_) h5 h6
  · rw [chain_iff]
    intro i a b ha hb
    have key : ∀ (j : Nat) (c : Nod), (g.nodes.set (fpos g.nodes id) ⟨n.id, n.kind, r⟩)[j]? = some c → ∃ c', g.nodes[j]? = some c' ∧ c'.id = c.id := by
      intro j c hc
      rw [List.getElem?_set] at hc
      split at hc
      · rename_i hj
        subst hj
        split at hc
        · injection hc with hc; subst hc; exact ⟨n, hn, rfl⟩
        · cases hc
      · exact ⟨c, hc, rfl⟩
    obtain ⟨a', ha', na⟩ := key i a ha
    obtain ⟨b', hb', nb⟩ := key (i + 1) b hb
    have := chain_iff.1 h3 i a' b' ha' hb'
    unfold nodLt at this ⊢
    rw [← na, ← nb]; exact this
  · rcases List.mem_or_eq_of_mem_set hm with hm | rfl
    · exact h4 m hm
    · obtain ⟨k1, k2⟩ := h4 n (List.mem_of_getElem? hn)
      exact ⟨k1, nodE_put k2 hr⟩
theorem op_right {g : Grf} {o : Opr} (h : grfE g = 0) (ho : opE g o = 0) : grfE (opG g o) = 0 := by
  obtain ⟨h1, h2, h3, h4⟩ := grf_ok h
  obtain ⟨h5, h6⟩ := grf_ties h
  unfold opE at ho
  unfold opG
  by_cases w1 : o.what = 1
  · rw [if_pos w1] at ho ⊢
    unfold bornE at ho
    by_cases e1 : nodE o.node = 0
    · rw [if_pos e1] at ho
      cases hh : fhas g.nodes o.node.id with
      | true => rw [hh] at ho; simp at ho
      | false =>
        rw [hh] at ho
        simp only [Bool.false_eq_true, if_false] at ho
        have hl : ¬ 60 ≤ g.nodes.length := fun hl => by rw [if_pos hl] at ho; cases ho
        obtain ⟨b1, b2⟩ := low_parts (c := nodC o.node.id) h3 (nodC_mono o.node.id) hh (fun a b hab hb => by
          unfold nodLt at hab; unfold nodC at *
          have := of_decide_eq_true hab
          exact cmpI_neg.2 (by rw [← cmpI_zero.1 hb]; exact this))
        have hid : idB o.node.id = true := by
          unfold nodE at e1
          cases hb : idB o.node.id with
          | true => rfl
          | false => rw [hb] at e1; simp at e1
        unfold bornG
        refine grf_mk (by simp; have := lowI_le (nodC o.node.id) g.nodes; unfold fpos; omega) h2 ((chain_pw nodLt_tr).2 (pw_insert ((chain_pw nodLt_tr).1 h3) (fun d hd => ?_) (fun d hd => ?_))) (fun m hm => ?_) h5 h6
        · unfold nodLt; exact decide_eq_true (cmpI_neg.1 (b1 d hd))
        · unfold nodLt; exact decide_eq_true (cmpI_pos.1 (b2 d hd))
        · rcases mem_insert hm with rfl | hm
          · exact ⟨hid, e1⟩
          · exact h4 m hm
    · rw [if_neg e1] at ho; exact absurd ho e1
  rw [if_neg w1] at ho ⊢
  by_cases w2 : o.what = 2
  · rw [if_pos w2]
    unfold goneG
    exact grf_mk (Nat.le_trans (len_delete _ _) h1) (Nat.le_trans (List.length_filter_le _ _) h2) ((chain_pw nodLt_tr).2 (pw_delete ((chain_pw nodLt_tr).1 h3) _)) (fun m hm => h4 m (mem_delete hm))
      ((chain_pw tieLt_tr).2 (((chain_pw tieLt_tr).1 h5).filter _)) (fun t ht => h6 t (List.mem_filter.1 ht).1)
  rw [if_neg w2] at ho ⊢
  by_cases w3 : o.what = 3
  · rw [if_pos w3] at ho ⊢
    cases hh : fhas g.nodes o.node.id with
    | false => rw [hh] at ho; simp at ho
    | true =>
      rw [hh, if_pos rfl] at ho
      exact put_right h hh (set_right ho)
  rw [if_neg w3] at ho ⊢
  by_cases w4 : o.what = 4
  · rw [if_pos w4] at ho ⊢
    cases hh : fhas g.nodes o.node.id with
    | false => rw [hh] at ho; simp at ho
    | true =>
      rw [hh, if_pos rfl] at ho
      exact put_right h hh (unset_right ho)
  rw [if_neg w4] at ho ⊢
  by_cases w5 : o.what = 5
  · rw [if_pos w5] at ho ⊢
    by_cases e1 : tieE o.tie = 0
    · rw [if_pos e1] at ho
      cases hh : thas g.ties o.tie with
      | true => rw [hh] at ho; simp at ho
      | false =>
        rw [hh] at ho
        simp only [Bool.false_eq_true, if_false] at ho
        have hl : ¬ 120 ≤ g.ties.length := fun hl => by rw [if_pos hl] at ho; cases ho
        obtain ⟨b1, b2⟩ := low_parts (c := tieC o.tie) h5 (tieC_mono o.tie) hh (fun a b hab hb => by
          unfold tieLt at hab; unfold tieC at *
          rw [← tieO_zero.1 hb]; exact of_decide_eq_true hab)
        refine grf_mk h1 (by simp; have := lowI_le (tieC o.tie) g.ties; unfold tpos; omega) h3 h4 ((chain_pw tieLt_tr).2 (pw_insert ((chain_pw tieLt_tr).1 h5) (fun d hd => ?_) (fun d hd => ?_))) (fun t ht => ?_)
        · unfold tieLt; exact decide_eq_true (b1 d hd)
        · unfold tieLt; exact decide_eq_true (tieO_pos (b2 d hd))
        · rcases mem_insert ht with rfl | ht
          · exact e1
          · exact h6 t ht
    · rw [if_neg e1] at ho; exact absurd ho e1
  rw [if_neg w5] at ho ⊢
  by_cases w6 : o.what = 6
  · rw [if_pos w6]
    exact grf_mk h1 (Nat.le_trans (len_delete _ _) h2) h3 h4 ((chain_pw tieLt_tr).2 (pw_delete ((chain_pw tieLt_tr).1 h5) _)) (fun t ht => h6 t (mem_delete ht))
  · rw [if_neg w6] at ho; cases ho
/-- Ops one behind the other: the graph, the first that is wrong, and how. -/
def allG (g : Grf) : List Opr → Grf
  | [] => g
  | o :: r => if opE g o = 0 then allG (opG g o) r else ⟨[], []⟩
def allE (g : Grf) : List Opr → Int
  | [] => 0
  | o :: r => if opE g o = 0 then allE (opG g o) r else opE g o
theorem all_right : ∀ {l : List Opr} {g : Grf}, grfE g = 0 → allE g l = 0 → grfE (allG g l) = 0
  | [], _, h, _ => h
  | o :: r, g, h, he => by
    unfold allE at he
    unfold allG
    by_cases h0 : opE g o = 0
    · rw [if_pos h0] at he ⊢
      exact all_right (op_right h h0) he
    · rw [if_neg h0] at he; exact absurd he h0
end Go.Proofs.YtngbbefpphinjaaGreatDoor

/- Plain: rows that are in one order; what each op does, as a set. No condition. -/
namespace Go.Proofs.YtngbbefpphinjaaGreatDoor
open Go

/-! ### Rows in one strict order -/
section
variable {D : Type} {R : D → D → Prop}
end
theorem tieLt_ir : ∀ a, ¬ tieLt a a = true := by
  intro a h
  unfold tieLt at h
  have h1 := of_decide_eq_true h
  have := (tieO_zero (a := a) (b := a)).2 rfl
  omega
theorem ties_pw {g : Grf} (h : grfE g = 0) : g.ties.Pairwise fun a b => tieLt a b = true := (chain_pw tieLt_tr).1 (grf_ties h).1
theorem prps_pw {r : List Prp} (h : recE r = 0) : r.Pairwise fun a b => prpLt a b = true := (chain_pw prpLt_tr).1 (rec_ok h).2.2
theorem id_uniq {g : Grf} (h : grfE g = 0) {m n : Nod} (hm : m ∈ g.nodes) (hn : n ∈ g.nodes) (e : m.id = n.id) : m = n := by
  obtain ⟨i, hi⟩ := List.mem_iff_getElem?.1 hm
  obtain ⟨j, hj⟩ := List.mem_iff_getElem?.1 hn
  have hc := (grf_ok h).2.2.1
  rcases Nat.lt_trichotomy i j with hl | hl | hl
  · have := chain_lt2 hc hl hi hj; omega
  · subst hl; rw [hi] at hj; injection hj
  · have := chain_lt2 hc hl hj hi; omega
theorem name_uniq {r : List Prp} (h : recE r = 0) {p q : Prp} (hp : p ∈ r) (hq : q ∈ r) (e : p.name = q.name) : p = q := by
  have hpw := prps_pw h
  obtain ⟨i, hi⟩ := List.mem_iff_getElem?.1 hp
  obtain ⟨j, hj⟩ := List.mem_iff_getElem?.1 hq
  obtain ⟨hil, rfl⟩ := List.getElem?_eq_some_iff.1 hi
  obtain ⟨hjl, rfl⟩ := List.getElem?_eq_some_iff.1 hj
  have h0 := (cmpS_zero (a := r[i].name) (b := r[j].name)).2 e
  have h1 := cmpS_anti r[i].name r[j].name
  rcases Nat.lt_trichotomy i j with hl | hl | hl
  · have := prpLt_iff.1 (List.pairwise_iff_getElem.1 hpw i j hil hjl hl); omega
  · subst hl; rfl
  · have := prpLt_iff.1 (List.pairwise_iff_getElem.1 hpw j i hjl hil hl); omega
/-! ### What is there, by name -/
theorem fhas_mem {g : Grf} (h : grfE g = 0) (id : Int) : fhas g.nodes id = true ↔ ∃ n ∈ g.nodes, n.id = id := by
  rw [fhas_any (grf_ok h).2.2.1, List.any_eq_true]
  simp
theorem fpos_of {g : Grf} (h : grfE g = 0) {n : Nod} (hn : n ∈ g.nodes) : fhas g.nodes n.id = true ∧ g.nodes[fpos g.nodes n.id]? = some n := by
  have hh := (fhas_mem h n.id).2 ⟨n, hn, rfl⟩
  refine ⟨hh, ?_⟩
  obtain ⟨m, hm⟩ := fhas_some' hh
  have h0 : nodC n.id m = 0 := by
    unfold fhas eqAt at hh
    rw [hm] at hh
    simpa using hh
  have : m.id = n.id := cmpI_zero.1 h0
  rw [hm, id_uniq h (List.mem_of_getElem? hm) hn this]
theorem rhas_mem {r : List Prp} (h : recE r = 0) (nm : ByteArray) : rhas r nm = true ↔ ∃ p ∈ r, p.name = nm := by
  constructor
  · intro hh
    obtain ⟨p, hp⟩ := rhas_some hh
    refine ⟨p, List.mem_of_getElem? hp, ?_⟩
    unfold rhas eqAt at hh
    rw [hp] at hh
    have : prpC nm p = 0 := by simpa using hh
    exact cmpS_zero.1 this
  · rintro ⟨p, hp, rfl⟩
    cases hq : rhas r p.name with
    | true => rfl
    | false =>
      obtain ⟨b1, b2⟩ := low_parts (c := prpC p.name) (rec_ok h).2.2 (prpC_mono p.name) hq (prp_hz p.name)
      have h0 : prpC p.name p = 0 := cmpS_zero.2 rfl
      rw [← List.take_append_drop (lowI (prpC p.name) r) r] at hp
      rcases List.mem_append.1 hp with hm | hm
      · have := b1 p hm; omega
      · have := b2 p hm; omega
theorem rpos_of {r : List Prp} (h : recE r = 0) {p : Prp} (hp : p ∈ r) : r[rpos r p.name]? = some p := by
  have hh := (rhas_mem h p.name).2 ⟨p, hp, rfl⟩
  obtain ⟨q, hq⟩ := rhas_some hh
  have hh2 := hh
  unfold rhas eqAt at hh2
  rw [hq] at hh2
  have : prpC p.name q = 0 := by simpa using hh2
  rw [hq, name_uniq h (List.mem_of_getElem? hq) hp (cmpS_zero.1 this)]
end Go.Proofs.YtngbbefpphinjaaGreatDoor

/- Plain: what the document's Set and Unset make of a record. No condition. -/
namespace Go.Proofs.YtngbbefpphinjaaGreatDoor
open Go

def rSetStep (p : Prp) (st : List Prp × Bool) (q : Prp) : List Prp × Bool :=
  let s1 := if !st.2 && decide (0 ≤ cmpS q.name p.name) then (st.1 ++ [p], true) else st
  if q.name = p.name then s1 else (s1.1 ++ [q], s1.2)
def rSetL (r : List Prp) (p : Prp) : List Prp :=
  let st := r.foldl (rSetStep p) ([], false)
  if st.2 then st.1 else st.1 ++ [p]
theorem fold_low (p : Prp) : ∀ (l : List Prp) (acc : List Prp), (∀ q ∈ l, cmpS q.name p.name < 0) → l.foldl (rSetStep p) (acc, false) = (acc ++ l, false)
  | [], acc, _ => by simp
  | q :: l, acc, h => by
    have h1 := h q (by simp)
    have h2 : ¬ q.name = p.name := fun e => by have := cmpS_zero.2 e; omega
    have e : rSetStep p (acc, false) q = (acc ++ [q], false) := by
      unfold rSetStep
      have : decide (0 ≤ cmpS q.name p.name) = false := decide_eq_false (by omega)
      simp [this, h2]
    rw [List.foldl_cons, e, fold_low p l _ (fun x hx => h x (by simp [hx]))]
    simp
theorem fold_put (p : Prp) : ∀ (l : List Prp) (acc : List Prp), (∀ q ∈ l, ¬ q.name = p.name) → l.foldl (rSetStep p) (acc, true) = (acc ++ l, true)
  | [], acc, _ => by simp
  | q :: l, acc, h => by
    have e : rSetStep p (acc, true) q = (acc ++ [q], true) := by
      unfold rSetStep
      simp [h q (by simp)]
    rw [List.foldl_cons, e, fold_put p l _ (fun x hx => h x (by simp [hx]))]
    simp
theorem rSet_eq {r : List Prp} (h : recE r = 0) (p : Prp) : rSetL r p = putP r p := by
  have hch := (rec_ok h).2.2
  have hlow : ∀ q ∈ r.take (rpos r p.name), cmpS q.name p.name < 0 := fun q hq => by
    obtain ⟨i, hi⟩ := List.mem_iff_getElem?.1 hq
    rw [List.getElem?_take] at hi
    split at hi
    · rename_i hlt; exact low_lt (c := prpC p.name) hlt hi
    · cases hi
  have hsplit : r.foldl (rSetStep p) ([], false) = (r.drop (rpos r p.name)).foldl (rSetStep p) (r.take (rpos r p.name), false) := by
    conv => lhs; rw [← List.take_append_drop (rpos r p.name) r]
    rw [List.foldl_append, fold_low p _ _ hlow, List.nil_append]
  unfold rSetL putP
  rw [hsplit]
  cases hq : rhas r p.name with
  | true =>
    rw [if_pos rfl]
    have hq' := hq
    unfold rhas eqAt at hq'
    cases hd : r[rpos r p.name]? with
    | none => rw [hd] at hq'; cases hq'
    | some q0 =>
      rw [hd] at hq'
      have h0 : prpC p.name q0 = 0 := by simpa using hq'
      have hn : q0.name = p.name := cmpS_zero.1 h0
      obtain ⟨hl, hg⟩ := List.getElem?_eq_some_iff.1 hd
      have hdrop : r.drop (rpos r p.name) = q0 :: r.drop (rpos r p.name + 1) := by rw [List.drop_eq_getElem_cons hl, hg]
      have hrest : ∀ x ∈ r.drop (rpos r p.name + 1), ¬ x.name = p.name := fun x hx => by
        have hpw := (chain_pw prpLt_tr).1 hch
        have h2 : (r.drop (rpos r p.name)).Pairwise fun a b => prpLt a b = true := hpw.sublist (List.drop_sublist _ _)
        rw [hdrop, List.pairwise_cons] at h2
        have h3 := prpLt_iff.1 (h2.1 x hx)
        rw [hn] at h3
        intro e
        rw [e] at h3
        have := (cmpS_zero (a := p.name) (b := p.name)).2 rfl
        omega
      have e : rSetStep p (r.take (rpos r p.name), false) q0 = (r.take (rpos r p.name) ++ [p], true) := by
        unfold rSetStep
        have : decide (0 ≤ cmpS q0.name p.name) = true := decide_eq_true (by rw [hn, (cmpS_zero (a := p.name) (b := p.name)).2 rfl]; omega)
        simp [hn, (cmpS_zero (a := p.name) (b := p.name)).2 rfl]
      rw [hdrop, List.foldl_cons, e, fold_put p _ _ hrest]
      simp only [if_true]
      rw [List.set_eq_take_append_cons_drop, if_pos hl, List.append_assoc]
      rfl
  | false =>
    rw [if_neg (show ¬ (false = true) by simp)]
    obtain ⟨_, b2⟩ := low_parts hch (prpC_mono p.name) hq (prp_hz p.name)
    show (let st := (r.drop (rpos r p.name)).foldl (rSetStep p) (r.take (rpos r p.name), false); if st.2 then st.1 else st.1 ++ [p]) = r.take (rpos r p.name) ++ p :: r.drop (rpos r p.name)
    have b2 : ∀ d ∈ r.drop (rpos r p.name), 0 < prpC p.name d := b2
    cases hd : r.drop (rpos r p.name) with
    | nil => simp
    | cons q0 rest =>
      rw [hd] at b2
      have h0 := b2 q0 (by simp)
      unfold prpC at h0
      have hn : ∀ x ∈ q0 :: rest, ¬ x.name = p.name := fun x hx e => by
        have h1 := b2 x hx
        unfold prpC at h1
        rw [cmpS_zero.2 e] at h1
        omega
      have e : rSetStep p (r.take (rpos r p.name), false) q0 = (r.take (rpos r p.name) ++ [p] ++ [q0], true) := by
        unfold rSetStep
        have h1 : decide (0 ≤ cmpS q0.name p.name) = true := decide_eq_true (by omega)
        simp [h1, hn q0 (by simp)]
      rw [List.foldl_cons, e, fold_put p rest _ (fun x hx => hn x (by simp [hx]))]
      simp
theorem put_len (r : List Prp) (p : Prp) : (putP r p).length = if rhas r p.name = true then r.length else r.length + 1 := by
  unfold putP
  split
  · simp
  · have : rpos r p.name ≤ r.length := lowI_le _ _
    simp; omega
/-- What the document's Set tells: of a record that is right. -/
theorem rset_parts {r : List Prp} (h : recE r = 0) (p : Prp) : (prpE p ≠ 0 → setE r p = prpE p ∧ setR r p = []) ∧ (prpE p = 0 → 8 < (rSetL r p).length → setE r p = 4 ∧ setR r p = []) ∧ (prpE p = 0 → ¬ 8 < (rSetL r p).length → setE r p = 0 ∧ setR r p = rSetL r p) := by
  have hl := (rec_ok h).1
  have e0 : setE r p = if prpE p = 0 then (if rhas r p.name then 0 else if 8 ≤ r.length then 4 else 0) else prpE p := by unfold setE; rw [if_pos h]
  rw [rSet_eq h, put_len]
  refine ⟨fun hp => ?_, fun hp hb => ?_, fun hp hb => ?_⟩
  · rw [if_neg hp] at e0
    exact ⟨e0, by unfold setR; rw [if_neg (by rw [e0]; exact hp)]⟩
  · have e1 : setE r p = 4 := by
      rw [e0, if_pos hp]
      split at hb
      · omega
      · rename_i hq; rw [if_neg hq, if_pos (by omega)]
    exact ⟨e1, by unfold setR; rw [if_neg (by rw [e1]; omega)]⟩
  · have e1 : setE r p = 0 := by
      rw [e0, if_pos hp]
      split at hb
      · rename_i hq; rw [if_pos hq]
      · rename_i hq; rw [if_neg hq, if_neg (by omega)]
    exact ⟨e1, by unfold setR; rw [if_pos e1]⟩
def rUnsL (r : List Prp) (nm : ByteArray) : List Prp := r.filter fun q => decide (¬ q.name = nm)
theorem rUns_eq {r : List Prp} (h : recE r = 0) (nm : ByteArray) : (rhas r nm = true → rUnsL r nm = unsetR r nm ∧ unsetE r nm = 0 ∧ (rUnsL r nm).length < r.length) ∧ (rhas r nm = false → unsetE r nm = 5 ∧ unsetR r nm = [] ∧ ¬ (rUnsL r nm).length < r.length) := by
  have hch := (rec_ok h).2.2
  refine ⟨fun hq => ?_, fun hq => ?_⟩
  · have e1 : unsetE r nm = 0 := by unfold unsetE; rw [if_pos h, if_pos hq]
    have hq' := hq
    unfold rhas eqAt at hq'
    cases hd : r[rpos r nm]? with
    | none => rw [hd] at hq'; cases hq'
    | some q0 =>
      rw [hd] at hq'
      have h0 : prpC nm q0 = 0 := by simpa using hq'
      have hn : q0.name = nm := cmpS_zero.1 h0
      obtain ⟨hl, hg⟩ := List.getElem?_eq_some_iff.1 hd
      have hdrop : r.drop (rpos r nm) = q0 :: r.drop (rpos r nm + 1) := by rw [List.drop_eq_getElem_cons hl, hg]
      have hrest : ∀ x ∈ r.drop (rpos r nm + 1), ¬ x.name = nm := fun x hx => by
        have hpw := (chain_pw prpLt_tr).1 hch
        have h2 : (r.drop (rpos r nm)).Pairwise fun a b => prpLt a b = true := hpw.sublist (List.drop_sublist _ _)
        rw [hdrop, List.pairwise_cons] at h2
        have h3 := prpLt_iff.1 (h2.1 x hx)
        rw [hn] at h3
        intro e
        rw [e] at h3
        have := (cmpS_zero (a := nm) (b := nm)).2 rfl
        omega
      have hlow : ∀ x ∈ r.take (rpos r nm), ¬ x.name = nm := fun x hx e => by
        obtain ⟨i, hi⟩ := List.mem_iff_getElem?.1 hx
        rw [List.getElem?_take] at hi
        split at hi
        · rename_i hlt
          have := low_lt (c := prpC nm) hlt hi
          unfold prpC at this
          rw [cmpS_zero.2 e] at this
          omega
        · cases hi
      have e2 : rUnsL r nm = r.take (rpos r nm) ++ r.drop (rpos r nm + 1) := by
        unfold rUnsL
        conv => lhs; rw [← List.take_append_drop (rpos r nm) r]
        rw [List.filter_append, hdrop, List.filter_cons, if_neg (by simp [hn])]
        rw [List.filter_eq_self.2 (fun x hx => decide_eq_true (hlow x hx)), List.filter_eq_self.2 (fun x hx => decide_eq_true (hrest x hx))]
      refine ⟨?_, e1, ?_⟩
      · rw [e2]; unfold unsetR; rw [if_pos e1]
      · rw [e2, List.length_append, List.length_take, List.length_drop]; omega
  · have e1 : unsetE r nm = 5 := by unfold unsetE; rw [if_pos h, if_neg (by rw [hq]; simp)]
    refine ⟨e1, by unfold unsetR; rw [if_neg (by rw [e1]; omega)], ?_⟩
    have e2 : rUnsL r nm = r := by
      unfold rUnsL
      refine List.filter_eq_self.2 fun x hx => decide_eq_true fun e => ?_
      have := (rhas_mem h nm).2 ⟨x, hx, e⟩
      rw [hq] at this; cases this
    rw [e2]; omega
end Go.Proofs.YtngbbefpphinjaaGreatDoor

/- A region that draws its order, inside a round of a range over a function: one walk in the order of the text serves every order where the operations only read. Conditions: the Bools on the region. -/
namespace Go.Proofs.YtngbbefpphinjaaGreatDoor
open Go Go.RowKit Go.BigFrame

section
variable {F : Fence} {n : Nat} {P : Program} {ops : Array Oper} {md : Region.Mode} {C : World → Prop}
end
end Go.Proofs.YtngbbefpphinjaaGreatDoor

/- Plain: a map from texts to bools that the call made, as a set; the kin of a kind; an append inside a fence. -/
namespace Go.Proofs.YtngbbefpphinjaaGreatDoor
open Go Go.RowKit
open Go.Maps (Keyed)

/-! ### Kin -/
/-- What comes of a kind is looked at once more: whoever it comes of. -/
def kinStep (S : ByteArray → Bool) (k : Knd) : ByteArray → Bool := if S k.name = true then fun s => S s || k.ofs.any (fun o => decide (o = s)) else S
def kinSet (l : List Knd) (name : ByteArray) : ByteArray → Bool := l.foldr (fun k S => kinStep S k) (fun s => decide (name = s))
def kinL (l : List Knd) (name : ByteArray) : List ByteArray := (l.filter fun k => kinSet l name k.name).map (·.name)

/-! ### A set of texts in memory -/
theorem plainElem_bool_inv {H : Type} {P : Program} {e : TypeId} (he : P.underlying e = some .bool) {v : Value} {z : DataW H × List MemPlace} (h : plainElem P e v = some z) : ∃ b, v = .bool b ∧ z = (.lit (.bool b), []) := by
  unfold plainElem at h
  rw [he] at h
  cases v <;> simp at h
  exact ⟨_, rfl, h.symm⟩
end Go.Proofs.YtngbbefpphinjaaGreatDoor

/- Contract: slices.Backward over kinds: the last first, then the one ahead of it, .., for every loop body that keeps what lay. -/
namespace Go.Proofs.YtngbbefpphinjaaGreatDoor
open Go Go.RowKit Go.Shelf

attribute [local go_sem] Oper.semAt_some

end Go.Proofs.YtngbbefpphinjaaGreatDoor

/- Contract: kind.KinOf: who comes of whom. -/
namespace Go.Proofs.YtngbbefpphinjaaGreatDoor
open Go Go.RowKit Go.Shelf

attribute [local go_sem] Oper.semAt_some

end Go.Proofs.YtngbbefpphinjaaGreatDoor

/- Contracts: slices.Index, slices.Contains over texts, kinref1.In, slices.IndexFunc over kinds, kind.Find. -/
namespace Go.Proofs.YtngbbefpphinjaaGreatDoor
open Go.RowKit

theorem bytes_beq (a b : ByteArray) : (a.toList == b.toList) = decide (a = b) := by
  rw [Bool.eq_iff_iff, beq_iff_eq, decide_eq_true_eq]
  constructor
  · intro h
    rw [ByteArray.toList_eq, ByteArray.toList_eq] at h
    have := Array.toList_inj.1 h
    cases a; cases b; simp at this; rw [this]
  · intro h; rw [h]

/-! ### kind.Find -/
end Go.Proofs.YtngbbefpphinjaaGreatDoor

/- Contracts: kind.FieldsOf's comparison and its binary search. -/
namespace Go.Proofs.YtngbbefpphinjaaGreatDoor
open Go.RowKit

end Go.Proofs.YtngbbefpphinjaaGreatDoor

/- Plain: a kind's fields: all of its kin's, sorted by name; two of one name that are not the same: none. -/
namespace Go.Proofs.YtngbbefpphinjaaGreatDoor

def fldC (name : ByteArray) (f : Fld) : Int := cmpS f.name name
/-- One more field. -/
def putF (l : List Fld) (f : Fld) : Option (List Fld) :=
  if eqAt (fldC f.name) l (lowI (fldC f.name) l) then (if l[lowI (fldC f.name) l]? = some f then some l else none)
  else some (l.take (lowI (fldC f.name) l) ++ f :: l.drop (lowI (fldC f.name) l))
/-- All fields of some kinds, one behind the other. -/
def allF (fs : List Fld) : Option (List Fld) := fs.foldlM putF []
def fieldsOf (l : List Knd) (name : ByteArray) : Option (List Fld) :=
  allF ((kinL l name).flatMap fun s => match l.find? (fun k => decide (k.name = s)) with | some k => k.fields | none => [])
end Go.Proofs.YtngbbefpphinjaaGreatDoor

/- Contracts: value.Type, kind.fields. -/
namespace Go.Proofs.YtngbbefpphinjaaGreatDoor
open Go.RowKit

end Go.Proofs.YtngbbefpphinjaaGreatDoor

/- Plain: kinds that are right: kin of kin is kin; a kind has all fields of its kin. -/
namespace Go.Proofs.YtngbbefpphinjaaGreatDoor

/-! ### What is wrong with kinds -/
/-! ### Where it is -/
theorem idxI_nonneg {D : Type} {p : D → Bool} {l : List D} (h : 0 ≤ idxI p l) : ∃ (k : Nat) (d : D), idxI p l = k ∧ l[k]? = some d ∧ p d = true ∧ ∀ j x, j < k → l[j]? = some x → p x = false := by
  induction l with
  | nil => rw [show idxI p ([] : List D) = -1 from idxI_miss (fun j x hj => absurd hj (Nat.not_lt_zero _))] at h; omega
  | cons a l ih =>
    by_cases ha : p a = true
    · refine ⟨0, a, ?_, rfl, ha, fun j x hj => absurd hj (Nat.not_lt_zero _)⟩
      have := idxI_hit (p := p) (l := a :: l) (k := 0) (d := a) (fun j x hj => absurd hj (Nat.not_lt_zero _)) rfl ha
      simpa using this
    · have hf : p a = false := by simpa using ha
      by_cases hall : ∃ (k : Nat) (d : D), l[k]? = some d ∧ p d = true
      · have : l.any p = true := by obtain ⟨k, d, h1, h2⟩ := hall; exact List.any_eq_true.2 ⟨d, List.mem_of_getElem? h1, h2⟩
        rw [← idxI_any] at this
        obtain ⟨k, d, h1, h2, h3, h4⟩ := ih (by simpa using this)
        have hm : ∀ j x, j < k + 1 → (a :: l)[j]? = some x → p x = false := by
          intro j x hj hx
          cases j with
          | zero => simp at hx; subst hx; exact hf
          | succ j => exact h4 j x (by omega) (by simpa using hx)
        exact ⟨k + 1, d, idxI_hit hm (by simpa using h2) h3, by simpa using h2, h3, hm⟩
      · exfalso
        have hm : ∀ j x, j < (a :: l).length → (a :: l)[j]? = some x → p x = false := by
          intro j x _ hx
          cases j with
          | zero => simp at hx; subst hx; exact hf
          | succ j =>
            cases hp : p x with
            | false => rfl
            | true => exact absurd ⟨j, x, by simpa using hx, hp⟩ hall
        have := idxI_miss hm
        omega
/-! ### Kinds that are right -/
/-! ### Kin -/
/-! ### Fields -/
end Go.Proofs.YtngbbefpphinjaaGreatDoor

/- Plain laws of the model: '==' and '!=' between the program's structs of flat cells. No condition. -/
namespace Go.Proofs.YtngbbefpphinjaaGreatDoor
open Go Go.RowKit

theorem bytes_eq (a b : ByteArray) : (a.toList = b.toList) = (a = b) := by
  have := bytes_beq a b
  apply propext
  constructor
  · intro h; rw [h] at this; simpa using this.symm
  · intro h; rw [h]
end Go.Proofs.YtngbbefpphinjaaGreatDoor

/- Contract: kind.FieldsOf: a kind's fields, all of its kin's. -/
namespace Go.Proofs.YtngbbefpphinjaaGreatDoor
open Go Go.RowKit

end Go.Proofs.YtngbbefpphinjaaGreatDoor

/- Contract: kind.one: what is wrong with one kind, behind those that are right. -/
namespace Go.Proofs.YtngbbefpphinjaaGreatDoor
open Go Go.RowKit

theorem Sl.take {D : Type} {L : Lay D} {w : World} {A : Option Addr} {n c : Nat} {l : List D} (h : Sl L w (.slice A n c) l) {k : Nat} (hk : k ≤ l.length) : Sl L w (.slice A k c) (l.take k) := by
  obtain ⟨A', c', hv, h1, h2, h3⟩ := h
  injection hv with hA hn hc
  subst hA; subst hc
  have hl : (l.take k).length = k := by simp; omega
  refine ⟨A, c, by rw [hl], by rw [hl]; omega, h2, fun i d hi => ?_⟩
  rw [List.getElem?_take] at hi
  split at hi
  · exact h3 i d hi
  · cases hi
end Go.Proofs.YtngbbefpphinjaaGreatDoor

/- Contracts: kind.Check, kind.ready, kind.Kin, kind.IsKin, kind.Is, kind.Fields, kind.Under. -/
namespace Go.Proofs.YtngbbefpphinjaaGreatDoor
open Go Go.RowKit

end Go.Proofs.YtngbbefpphinjaaGreatDoor

/- Contracts: kind.ready, kind.Kin, kind.IsKin, kind.Is, kind.Fields. -/
namespace Go.Proofs.YtngbbefpphinjaaGreatDoor
open Go Go.RowKit

end Go.Proofs.YtngbbefpphinjaaGreatDoor

/- Contract: kind.Under: all that come of a kind. -/
namespace Go.Proofs.YtngbbefpphinjaaGreatDoor
open Go Go.RowKit

end Go.Proofs.YtngbbefpphinjaaGreatDoor

/- Contracts: kinsame.Texts, kinsame.Fields. No condition. -/
namespace Go.Proofs.YtngbbefpphinjaaGreatDoor
open Go Go.RowKit


theorem drewN_step {w wr : World} (h : ∃ m, wr = w.drewN m) (n : Nat) : ∃ m, wr.drewN n = w.drewN m := by
  obtain ⟨m, rfl⟩ := h
  exact ⟨m + n, World.drewN_drewN ..⟩
/-- Two lists, place by place. -/
theorem lists_eq {D : Type} [DecidableEq D] {a b : List D} (hl : a.length = b.length) (h : ∀ j x y, j < a.length → a[j]? = some x → b[j]? = some y → x = y) : a = b := by
  apply List.ext_getElem? 
  intro i
  by_cases hi : i < a.length
  · have h1 := List.getElem?_eq_getElem hi
    have h2 : b[i]? = some b[i] := List.getElem?_eq_getElem (by omega)
    rw [h1, h2, h i _ _ hi h1 h2]
  · rw [List.getElem?_eq_none (by omega), List.getElem?_eq_none (by omega)]
end Go.Proofs.YtngbbefpphinjaaGreatDoor

/- Contracts of the references: kinref1.Name, kinref1.Kind, kinsame.Texts, kinsame.Fields. -/
namespace Go.Proofs.YtngbbefpphinjaaGreatDoor
open Go Go.RowKit

theorem bytes_at (s : ByteArray) (k : Nat) (h : k < s.size) : s.data.toList[k]? = some s[k] := by
  rw [List.getElem?_eq_getElem (by simpa using h)]; rfl
set_option maxHeartbeats 1000000 in
theorem rname_any (s : ByteArray) (w : World) (hs : Sm s) : Calls Tryz.prog 76 #[.string s] w fun e w' => e = .returned (.int .i64 (nameE s)) ∧ w = w' := by
  unfold Sm at hs
  by_cases h0 : s.toList.isEmpty = true
  · have HE : Hid (nameE s = 2) := by unfold Hid nameE; rw [if_pos h0]
    have h1 : s.toList = [] := by simpa using h0
    clear h0
    go_enter Tryz.func76, Tryz.ntmps76
    go_wp2_with fail
    go_ret
    exact ⟨by rw [HE.out]; rfl, rfl⟩
  have h1 : s.toList.isEmpty = false := by simpa using h0
  have h2 : ¬ s.toList = [] := by intro e; rw [e] at h1; simp at h1
  by_cases h8 : 8 < s.size
  · have HE : Hid (nameE s = 2) := by unfold Hid nameE; rw [if_neg h0, if_pos h8]
    have h8' : (8 : Int) < (s.size : Int) := by omega
    clear h0
    go_enter Tryz.func76, Tryz.ntmps76
    go_wp2_with fail
    go_ret
    exact ⟨by rw [HE.out]; rfl, rfl⟩
  have h8' : (s.size : Int) ≤ 8 := by omega
  have HE0 : Hid (nameE s = if s.data.toList.any nameC then 2 else 0) := by unfold Hid nameE; rw [if_neg h0, if_neg h8]
  clear h0
  go_enter Tryz.func76, Tryz.ntmps76
  go_wp2_with fail
  go_loop [3] (fun i => ∃ k : Nat, k ≤ s.size ∧ i = .int .i64 k ∧ Hid (∀ j x, j < k → s.data.toList[j]? = some x → nameC x = false)) (fun i => s.size - (intOf i).toNat)
  case atStart => exact ⟨0, Nat.zero_le _, rfl, fun j x hj => absurd hj (Nat.not_lt_zero _)⟩
  case round =>
    obtain ⟨k, hk, rfl, HA⟩ := hrel
    by_cases hlt : k < s.size
    · have hlt' : (k : Int) < (s.size : Int) := by omega
      have HB := Lib.hid (bytes_at s k hlt)
      by_cases hlo : (s[k].toNat : Int) < 97
      · have HE : Hid (nameE s = 2) := by
          unfold Hid; rw [HE0.out, if_pos]
          exact List.any_eq_true.2 ⟨_, List.mem_of_getElem? HB.out, by unfold nameC; rw [decide_eq_true hlo]; rfl⟩
        clear HE0
        go_wp2_with fail
        go_ret
        exact ⟨by rw [HE.out]; rfl, rfl⟩
      · have hlo' : (97 : Int) ≤ (s[k].toNat : Int) := by omega
        by_cases hhi : (122 : Int) < (s[k].toNat : Int)
        · have HE : Hid (nameE s = 2) := by
            unfold Hid; rw [HE0.out, if_pos]
            exact List.any_eq_true.2 ⟨_, List.mem_of_getElem? HB.out, by unfold nameC; rw [decide_eq_true hhi]; simp⟩
          clear HE0
          go_wp2_with fail
          go_ret
          exact ⟨by rw [HE.out]; rfl, rfl⟩
        · have hhi' : (s[k].toNat : Int) ≤ 122 := by omega
          have HS : Hid (∀ j x, j < k + 1 → s.data.toList[j]? = some x → nameC x = false) := miss_step HA.out HB.out (by unfold nameC; rw [decide_eq_false hlo, decide_eq_false hhi]; rfl)
          clear hlo hhi HE0
          go_wp2_with fail
          go_round
          case rel => exact ⟨k + 1, by omega, by go_num, HS⟩
          case measure => simp [intOf]; omega
    · obtain rfl : k = s.size := by omega
      have HE : Hid (nameE s = 0) := by
        unfold Hid; rw [HE0.out, if_neg]
        intro h
        obtain ⟨x, hx, hc⟩ := List.any_eq_true.1 h
        obtain ⟨j, hj⟩ := List.mem_iff_getElem?.1 hx
        have := HA.out j x (by have := (List.getElem?_eq_some_iff.1 hj).1; simpa using this) hj
        rw [this] at hc; cases hc
      clear HE0
      go_wp2_with fail
      go_ret
      exact ⟨by rw [HE.out]; rfl, rfl⟩

end Go.Proofs.YtngbbefpphinjaaGreatDoor
