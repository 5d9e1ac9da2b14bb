/- Parts: RecU, EmptyP, OpR, DbP, DbQ, RbP. -/
import Derived.Test.YtdmpkgiijddcdaaGreatDoorMg07
import Derived.Test.YtdmpkgiijddcdaaGreatDoorMg04
/- Contract: record.Unset. -/
namespace Go.Proofs.YtdmpkgiijddcdaaGreatDoor
open Go Go.RowKit

set_option maxRecDepth 100000 in
set_option maxHeartbeats 4000000 in
theorem unset_own (r : List Prp) (nm : ByteArray) (v : Value) (w : World) (hv : Sl prpL w v r) :
    Calls Tryz.prog 30 #[v, .string nm] w (RetO (unsetR r nm) (unsetE r nm) w) := by
  have h1 := recCheck_any r v _ hv
  have HV := Lib.hid hv
  obtain ⟨A, c, rfl, _, _⟩ := hv.form
  clear hv
  go_enter Tryz.func30, Tryz.ntmps30
  go_wp2_with fail
  refine h1.mono ?_
  clear h1
  rintro e w1 ⟨rfl, hb1⟩
  by_cases he : recE r = 0
  case neg =>
    have HE : Hid (errV (unsetE r nm) = .iface 118 (.int .i64 (recE r)) ∧ unsetR r nm = []) := by
      have h0 : unsetE r nm = recE r := by unfold unsetE; rw [if_neg he]
      exact ⟨by rw [h0]; exact errV_some he, by unfold unsetR; rw [h0, if_neg he]⟩
    rw [errV_some he]
    clear he
    go_wp2_with fail
    go_ret2
    exact ⟨.slice none 0 0, by rw [HE.out.1]; rfl, by rw [HE.out.2]; exact OwnP.nil, hb1⟩
  obtain ⟨hl8, _, hch⟩ := rec_ok he
  have HE : Hid (unsetE r nm = if rhas r nm then 0 else 5) := by unfold Hid unsetE; rw [if_pos he]
  have HR : Hid (unsetR r nm = if unsetE r nm = 0 then r.take (rpos r nm) ++ r.drop (rpos r nm + 1) else []) := rfl
  rw [errV_zero he]
  have hfd := rfind_any r nm _ w1 (HV.out.below hb1) hch (by omega)
  clear he hch
  go_wp2_with fail
  refine hfd.mono ?_
  clear hfd
  rintro e w2 ⟨rfl, hb2⟩
  have hB2 := hb1.trans (hb2.mono hb1.size)
  cases hq : rhas r nm with
  | false =>
    have HF : Hid (errV (unsetE r nm) = .iface 118 (.int .i64 5) ∧ unsetR r nm = []) := by
      have h0 : unsetE r nm = 5 := by rw [HE.out, hq]; rfl
      exact ⟨by rw [h0]; rfl, by rw [HR.out, h0, if_neg (by omega)]⟩
    clear hq HE HR
    go_wp2_with fail
    go_ret2
    exact ⟨.slice none 0 0, by rw [HF.out.1]; rfl, by rw [HF.out.2]; exact OwnP.nil, hB2⟩
  | true =>
    obtain ⟨d, hd⟩ := rhas_some hq
    have hkl := (List.getElem?_eq_some_iff.1 hd).1
    obtain ⟨m, hm⟩ : ∃ m, r.length = m + 1 := ⟨r.length - 1, by omega⟩
    have HF : Hid (errV (unsetE r nm) = .nilIface ∧ unsetR r nm = r.take (rpos r nm) ++ r.drop (rpos r nm + 1)) := by
      have h0 : unsetE r nm = 0 := by rw [HE.out, hq]; rfl
      exact ⟨by rw [h0]; rfl, by rw [HR.out, h0, if_pos rfl]⟩
    have hcl := clone_prps (HV.out.below hB2) (by omega)
    have hKi : ((rpos r nm : Nat) : Int) ≤ 8 := by omega
    have HL : Hid ((unsetR r nm).length = m) := by unfold Hid; rw [HF.out.2]; simp; omega
    have HO : Hid (∀ x ∈ r, x.ok → x.ok) := fun x _ h => h
    have HM : Hid (∀ x ∈ unsetR r nm, x ∈ r) := fun x hx => by
      rw [HF.out.2] at hx
      rcases List.mem_append.1 hx with h | h
      · exact List.mem_of_mem_take h
      · exact List.mem_of_mem_drop h
    generalize rpos r nm = K at *
    have HM0 := Lib.hid hm
    clear hq HE HR hd hm
    go_wp2_with fail
    refine hcl.mono ?_
    clear hcl
    rintro e w3 ⟨v3, xs, rfl, hown, hrow, hb3⟩
    obtain ⟨rfl, hoks⟩ := Row.flat hrow
    have hown : Own w3 w2.heap.size 62 4 v3 r.length (r.flatMap Prp.enc) := hown
    have hB3 := hB2.trans (hb3.mono hB2.size)
    have hs2 := hB2.size
    have HOK := Lib.hid hoks
    rw [HM0.out] at hown
    have hm := HM0.out
    have hdel := del1_prps w3 w2.heap.size v3 m (r.flatMap Prp.enc) hown K (by omega) (oneCell_flat Prp.enc_one r) (by omega)
    rw [flat_take Prp.enc_len r K (by omega), flat_drop Prp.enc_len r (K + 1) (by omega), ← List.flatMap_append, ← HF.out.2] at hdel
    have HW := Lib.hid hown
    obtain ⟨A3, c3, rfl, _, _⟩ := hown.form
    rw [hm]
    clear hown hrow hoks hm
    go_wp2_with fail
    refine hdel.mono ?_
    clear hdel
    rintro e w4 ⟨u4, rfl, ho4, hg4, hu4⟩
    have hB4 : Below w.heap.size w w4 := hB3.grown hg4 (by have := hb3.size; omega) (fun kk e => by have := (HW.out.lt kk e).1; omega)
    have HO4 := Lib.hid ho4
    obtain ⟨A4, c4, rfl, _, _⟩ := ho4.form
    clear ho4 hg4 hu4
    go_wp2_with fail
    go_ret2
    exact ⟨.slice A4 m c4, by rw [HF.out.1]; rfl, ⟨by rw [HL.out]; exact HO4.out.mono hs2, fun x hx => HOK.out x (HM.out x hx)⟩, hB4⟩

open Go

theorem chain_pw {D : Type} {R : D → D → Bool} (tr : ∀ a b c, R a b = true → R b c = true → R a c = true) : ∀ {l : List D}, chain R l = true ↔ l.Pairwise fun a b => R a b = true
  | [] => by simp [chain]
  | [a] => by simp [chain]
  | a :: b :: r => by
    have ih := chain_pw tr (l := b :: r)
    rw [chain, Bool.and_eq_true, ih]
    constructor
    · rintro ⟨h1, h2⟩
      refine List.pairwise_cons.2 ⟨fun x hx => ?_, h2⟩
      rcases List.mem_cons.1 hx with rfl | hx
      · exact h1
      · exact tr a b x h1 ((List.pairwise_cons.1 h2).1 x hx)
    · intro h
      obtain ⟨h1, h2⟩ := List.pairwise_cons.1 h
      exact ⟨h1 b (by simp), h2⟩
theorem pw_insert {D : Type} {R : D → D → Prop} {l : List D} {i : Nat} {x : D} (h : l.Pairwise R) (h1 : ∀ d ∈ l.take i, R d x) (h2 : ∀ d ∈ l.drop i, R x d) : (l.take i ++ x :: l.drop i).Pairwise R := by
  rw [List.pairwise_append]
  refine ⟨h.sublist (List.take_sublist _ _), List.pairwise_cons.2 ⟨h2, h.sublist (List.drop_sublist _ _)⟩, fun a ha b hb => ?_⟩
  rcases List.mem_cons.1 hb with rfl | hb
  · exact h1 a ha
  · rw [← List.take_append_drop i l, List.pairwise_append] at h
    exact h.2.2 a ha b hb
theorem mem_insert {D : Type} {l : List D} {i : Nat} {x y : D} (h : y ∈ l.take i ++ x :: l.drop i) : y = x ∨ y ∈ l := by
  rcases List.mem_append.1 h with h | h
  · exact .inr (List.mem_of_mem_take h)
  · rcases List.mem_cons.1 h with h | h
    · exact .inl h
    · exact .inr (List.mem_of_mem_drop h)
/-- What stands ahead of a place in a row, and behind it. -/
theorem low_parts {D : Type} {R : D → D → Bool} {c : D → Int} {l : List D} (hc : chain R l = true) (mono : ∀ a b, R a b = true → 0 ≤ c a → 0 ≤ c b) (hno : eqAt c l (lowI c l) = false)
    (hz : ∀ a b, R a b = true → c b = 0 → c a < 0) : (∀ d ∈ l.take (lowI c l), c d < 0) ∧ ∀ d ∈ l.drop (lowI c l), 0 < c d := by
  constructor
  · intro d hd
    obtain ⟨i, hi⟩ := List.mem_iff_getElem?.1 hd
    rw [List.getElem?_take] at hi
    split at hi
    · rename_i h; exact low_lt h hi
    · cases hi
  · intro d hd
    obtain ⟨i, hi⟩ := List.mem_iff_getElem?.1 hd
    rw [List.getElem?_drop] at hi
    have h0 := low_ge (c := c) hc mono (by omega) hi
    by_cases h1 : 0 < c d
    · exact h1
    · have hd0 : c d = 0 := by omega
      rcases Nat.eq_zero_or_pos i with rfl | hp
      · unfold eqAt at hno
        rw [Nat.add_zero] at hi
        rw [hi] at hno
        simp [hd0] at hno
      · have hil := (List.getElem?_eq_some_iff.1 hi).1
        have hm : l[lowI c l]? = some (l[lowI c l]'(by omega)) := List.getElem?_eq_getElem _
        have h2 := low_ge (c := c) hc mono (Nat.le_refl _) hm
        have h3 : 0 < c (l[lowI c l]'(by omega)) := by
          unfold eqAt at hno
          rw [hm] at hno
          have : ¬ c (l[lowI c l]'(by omega)) = 0 := by simpa using hno
          omega
        have key : ∀ (k : Nat) e, l[lowI c l + k]? = some e → 0 < c e := by
          intro k
          induction k with
          | zero => intro e he; rw [Nat.add_zero, hm] at he; injection he with he; subst he; exact h3
          | succ k ih =>
            intro e he
            have hl := (List.getElem?_eq_some_iff.1 he).1
            have hp' : l[lowI c l + k]? = some (l[lowI c l + k]'(by omega)) := List.getElem?_eq_getElem _
            have h4 := ih _ hp'
            have h5 := chain_iff.1 hc (lowI c l + k) _ e hp' (by rw [← he]; rfl)
            have h6 := mono _ _ h5 (by omega)
            by_cases h7 : c e = 0
            · have := hz _ _ h5 h7; omega
            · omega
        exact key i d hi
theorem prpLt_iff {a b : Prp} : prpLt a b = true ↔ cmpS a.name b.name < 0 := by
  unfold prpLt; rw [ltS_cmp]; simp
theorem prpLt_tr : ∀ a b c, prpLt a b = true → prpLt b c = true → prpLt a c = true := by
  intro a b c h k
  rw [prpLt_iff] at *
  exact cmpS_trans h k
/-! ### What makes a graph right -/
theorem firstE_mk {D : Type} {f : D → Int} : ∀ {l : List D}, (∀ d ∈ l, f d = 0) → firstE f l = 0
  | [], _ => rfl
  | d :: r, h => by rw [firstE, if_pos (h d (by simp))]; exact firstE_mk fun x hx => h x (by simp [hx])
theorem rec_mk {r : List Prp} (h1 : r.length ≤ 8) (h2 : ∀ p ∈ r, prpE p = 0) (h3 : chain prpLt r = true) : recE r = 0 := by
  have h3 : chain (fun a b : Prp => ltS a.name b.name) r = true := h3
  unfold recE
  rw [if_neg (by omega), if_pos (firstE_mk h2), h3]; rfl
/-! ### Records -/
theorem prp_hz (nm : ByteArray) : ∀ a b, prpLt a b = true → prpC nm b = 0 → prpC nm a < 0 := by
  intro a b h k
  rw [prpLt_iff] at h
  unfold prpC at *
  rw [← cmpS_zero.1 k]
  exact h
theorem set_right {r : List Prp} {p : Prp} (h : setE r p = 0) : recE (setR r p) = 0 := by
  have h0 := h
  unfold setE at h
  by_cases e1 : recE r = 0
  · rw [if_pos e1] at h
    by_cases e2 : prpE p = 0
    · rw [if_pos e2] at h
      obtain ⟨a1, a2, a3⟩ := rec_ok e1
      unfold setR
      rw [if_pos h0]
      unfold putP
      cases hh : rhas r p.name with
      | true =>
        rw [if_pos rfl]
        obtain ⟨q, hq⟩ := rhas_some hh
        have hqn : q.name = p.name := by
          unfold rhas eqAt at hh
          rw [hq] at hh
          have : prpC p.name q = 0 := by simpa using hh
          exact cmpS_zero.1 this
        refine rec_mk (by simpa using a1) (fun x hx => ?_) ?_
        · rcases List.mem_or_eq_of_mem_set hx with hx | rfl
          · exact a2 x hx
          · exact e2
        · rw [chain_iff]
          intro i a b ha hb
          have key : ∀ (j : Nat) (c : Prp), (r.set (rpos r p.name) p)[j]? = some c → ∃ c', r[j]? = some c' ∧ c'.name = c.name := by
            intro j c hc
            rw [List.getElem?_set] at hc
            split at hc
            · rename_i hj
              subst hj
              split at hc
              · injection hc with hc; subst hc; exact ⟨q, hq, hqn⟩
              · cases hc
            · exact ⟨c, hc, rfl⟩
          obtain ⟨a', ha', na⟩ := key i a ha
          obtain ⟨b', hb', nb⟩ := key (i + 1) b hb
          have := chain_iff.1 a3 i a' b' ha' hb'
          rw [prpLt_iff] at this ⊢
          rw [← na, ← nb]; exact this
      | false =>
        rw [hh] at h
        simp only [Bool.false_eq_true, if_false] at h
        have hl : ¬ 8 ≤ r.length := fun hl => by rw [if_pos hl] at h; cases h
        rw [if_neg (by simp)]
        obtain ⟨b1, b2⟩ := low_parts (c := prpC p.name) a3 (prpC_mono p.name) hh (prp_hz p.name)
        refine rec_mk (by simp; have := lowI_le (prpC p.name) r; unfold rpos; omega) (fun x hx => ?_) ((chain_pw prpLt_tr).2 (pw_insert ((chain_pw prpLt_tr).1 a3) (fun d hd => ?_) (fun d hd => ?_)))
        · rcases mem_insert hx with rfl | hx
          · exact e2
          · exact a2 x hx
        · rw [prpLt_iff]; exact b1 d hd
        · rw [prpLt_iff, cmpS_anti]; have := b2 d hd; unfold prpC at this; omega
    · rw [if_neg e2] at h; exact absurd h e2
  · rw [if_neg e1] at h; exact absurd h e1

/-! ### Rows in one strict order -/
section
variable {D : Type} {R : D → D → Prop}
theorem mem_ins {l : List D} {i : Nat} {x : D} (u : D) : u ∈ l.take i ++ x :: l.drop i ↔ u ∈ l ∨ u = x := by
  have hm : u ∈ l ↔ u ∈ l.take i ∨ u ∈ l.drop i := by rw [← List.mem_append, List.take_append_drop]
  rw [hm]
  simp only [List.mem_append, List.mem_cons]
  constructor
  · rintro (h | h | h)
    · exact .inl (.inl h)
    · exact .inr h
    · exact .inl (.inr h)
  · rintro ((h | h) | h)
    · exact .inl h
    · exact .inr (.inr h)
    · exact .inr (.inl h)
end
theorem prpLt_ir : ∀ a, ¬ prpLt a a = true := by
  intro a h
  rw [prpLt_iff] at h
  have := (cmpS_zero (a := a.name) (b := a.name)).2 rfl
  omega
theorem prps_pw {r : List Prp} (h : recE r = 0) : r.Pairwise fun a b => prpLt a b = true := (chain_pw prpLt_tr).1 (rec_ok h).2.2
theorem name_uniq {r : List Prp} (h : recE r = 0) {p q : Prp} (hp : p ∈ r) (hq : q ∈ r) (e : p.name = q.name) : p = q := by
  have hpw := prps_pw h
  obtain ⟨i, hi⟩ := List.mem_iff_getElem?.1 hp
  obtain ⟨j, hj⟩ := List.mem_iff_getElem?.1 hq
  obtain ⟨hil, rfl⟩ := List.getElem?_eq_some_iff.1 hi
  obtain ⟨hjl, rfl⟩ := List.getElem?_eq_some_iff.1 hj
  have h0 := (cmpS_zero (a := r[i].name) (b := r[j].name)).2 e
  have h1 := cmpS_anti r[i].name r[j].name
  rcases Nat.lt_trichotomy i j with hl | hl | hl
  · have := prpLt_iff.1 (List.pairwise_iff_getElem.1 hpw i j hil hjl hl); omega
  · subst hl; rfl
  · have := prpLt_iff.1 (List.pairwise_iff_getElem.1 hpw j i hjl hil hl); omega
/-! ### What is there, by name -/
theorem rhas_mem {r : List Prp} (h : recE r = 0) (nm : ByteArray) : rhas r nm = true ↔ ∃ p ∈ r, p.name = nm := by
  constructor
  · intro hh
    obtain ⟨p, hp⟩ := rhas_some hh
    refine ⟨p, List.mem_of_getElem? hp, ?_⟩
    unfold rhas eqAt at hh
    rw [hp] at hh
    have : prpC nm p = 0 := by simpa using hh
    exact cmpS_zero.1 this
  · rintro ⟨p, hp, rfl⟩
    cases hq : rhas r p.name with
    | true => rfl
    | false =>
      obtain ⟨b1, b2⟩ := low_parts (c := prpC p.name) (rec_ok h).2.2 (prpC_mono p.name) hq (prp_hz p.name)
      have h0 : prpC p.name p = 0 := cmpS_zero.2 rfl
      rw [← List.take_append_drop (lowI (prpC p.name) r) r] at hp
      rcases List.mem_append.1 hp with hm | hm
      · have := b1 p hm; omega
      · have := b2 p hm; omega
theorem rpos_of {r : List Prp} (h : recE r = 0) {p : Prp} (hp : p ∈ r) : r[rpos r p.name]? = some p := by
  have hh := (rhas_mem h p.name).2 ⟨p, hp, rfl⟩
  obtain ⟨q, hq⟩ := rhas_some hh
  have hh2 := hh
  unfold rhas eqAt at hh2
  rw [hq] at hh2
  have : prpC p.name q = 0 := by simpa using hh2
  rw [hq, name_uniq h (List.mem_of_getElem? hq) hp (cmpS_zero.1 this)]

/-! ### Records, as sets -/
theorem set_rec {r : List Prp} (h : recE r = 0) {p : Prp} (he : prpE p = 0) (hl : (∃ q ∈ r, q.name = p.name) ∨ r.length < 8) : setE r p = 0 ∧ ∀ q, q ∈ setR r p ↔ (q ∈ r ∧ q.name ≠ p.name) ∨ q = p := by
  cases hh : rhas r p.name with
  | true =>
    have hE : setE r p = 0 := by unfold setE; rw [if_pos h, if_pos he, hh]; rfl
    refine ⟨hE, fun q => ?_⟩
    obtain ⟨x, hx, hxn⟩ := (rhas_mem h p.name).1 hh
    have hpos := rpos_of h hx
    rw [hxn] at hpos
    unfold setR putP
    rw [if_pos hE, hh, if_pos rfl]
    have hi := (List.getElem?_eq_some_iff.1 hpos).1
    generalize rpos r p.name = i at *
    constructor
    · intro hm
      obtain ⟨j, hj⟩ := List.mem_iff_getElem?.1 hm
      rw [List.getElem?_set] at hj
      split at hj
      · injection hj with hj; exact .inr hj.symm
      · rename_i hne
        refine .inl ⟨List.mem_of_getElem? hj, fun e => hne ?_⟩
        have hq := List.mem_of_getElem? hj
        have heq : q = x := name_uniq h hq hx (by rw [e, hxn])
        subst heq
        have hpw := prps_pw h
        obtain ⟨hjl, ej⟩ := List.getElem?_eq_some_iff.1 hj
        obtain ⟨hil, ei⟩ := List.getElem?_eq_some_iff.1 hpos
        rcases Nat.lt_trichotomy i j with hl | hl | hl
        · have := List.pairwise_iff_getElem.1 hpw i j hil hjl hl
          rw [ei, ej] at this; exact absurd this (prpLt_ir q)
        · exact hl
        · have := List.pairwise_iff_getElem.1 hpw j i hjl hil hl
          rw [ei, ej] at this; exact absurd this (prpLt_ir q)
    · rintro (⟨hm, hne⟩ | rfl)
      · obtain ⟨j, hj⟩ := List.mem_iff_getElem?.1 hm
        refine List.mem_iff_getElem?.2 ⟨j, ?_⟩
        rw [List.getElem?_set]
        rw [if_neg (fun e => by subst e; rw [hpos] at hj; injection hj with hj; exact hne (by rw [← hj, hxn]))]
        exact hj
      · refine List.mem_iff_getElem?.2 ⟨i, ?_⟩
        rw [List.getElem?_set_self hi]
  | false =>
    have hno : ∀ q ∈ r, q.name ≠ p.name := fun q hq e => by
      have := (rhas_mem h p.name).2 ⟨q, hq, e⟩
      rw [hh] at this; cases this
    have hl8 : r.length < 8 := by
      rcases hl with ⟨q, hq, e⟩ | hl
      · exact absurd e (hno q hq)
      · exact hl
    have hE : setE r p = 0 := by unfold setE; rw [if_pos h, if_pos he, hh, if_neg (by simp), if_neg (by omega)]
    refine ⟨hE, fun q => ?_⟩
    unfold setR putP
    rw [if_pos hE, hh, if_neg (by simp)]
    refine (mem_ins q).trans ⟨?_, ?_⟩
    · rintro (h1 | h1)
      · exact .inl ⟨h1, hno q h1⟩
      · exact .inr h1
    · rintro (h1 | h1)
      · exact .inl h1.1
      · exact .inr h1

theorem setE_parts {r : List Prp} {p : Prp} (h : setE r p = 0) : recE r = 0 ∧ prpE p = 0 ∧ ((∃ q ∈ r, q.name = p.name) ∨ r.length < 8) := by
  unfold setE at h
  by_cases h1 : recE r = 0
  · rw [if_pos h1] at h
    by_cases h2 : prpE p = 0
    · rw [if_pos h2] at h
      refine ⟨h1, h2, ?_⟩
      cases hh : rhas r p.name with
      | true => exact .inl ((rhas_mem h1 p.name).1 hh)
      | false =>
        rw [hh] at h
        right
        rcases Nat.lt_or_ge r.length 8 with h3 | h3
        · exact h3
        · simp [h3] at h
    · rw [if_neg h2] at h; exact absurd h h2
  · rw [if_neg h1] at h; exact absurd h h1
theorem get_has {r : List Prp} (h : recE r = 0) (nm : ByteArray) : getE r nm = if rhas r nm then 0 else 5 := by
  unfold getE; rw [if_pos h]
theorem get_at {r : List Prp} (h : recE r = 0) {q : Prp} (hq : q ∈ r) : getE r q.name = 0 ∧ getV r q.name = q.v := by
  have hh : rhas r q.name = true := (rhas_mem h q.name).2 ⟨q, hq, rfl⟩
  have hE : getE r q.name = 0 := by rw [get_has h, hh]; rfl
  refine ⟨hE, ?_⟩
  unfold getV
  rw [if_pos hE, rpos_of h hq]
theorem set_back {r : List Prp} {p : Prp} (h : setE r p = 0) : recE (setR r p) = 0 ∧ getE (setR r p) p.name = 0 ∧ getV (setR r p) p.name = p.v := by
  have hx := set_right h
  obtain ⟨h1, h2, h3⟩ := setE_parts h
  have hm := (set_rec h1 h2 h3).2
  obtain ⟨g1, g2⟩ := get_at hx ((hm p).2 (.inr rfl))
  exact ⟨hx, g1, g2⟩
end Go.Proofs.YtdmpkgiijddcdaaGreatDoor
