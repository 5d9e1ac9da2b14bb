/- Parts: DbP, DbQ, RbP, DelD, DelT, CloN. -/
import Derived.Test.YtmbeeaohidgfgaaGreatDoorMg17
import Derived.Test.YtmbeeaohidgfgaaGreatDoorMg11
import Derived.Test.YtmbeeaohidgfgaaGreatDoorMg08
/- Plain: rows that are in one order; what each op does, as a set. No condition. -/
namespace Go.Proofs.YtmbeeaohidgfgaaGreatDoor
open Go

/-! ### Rows in one strict order -/
section
variable {D : Type} {R : D → D → Prop}
theorem pw_erase (ir : ∀ a, ¬ R a a) {l : List D} (hl : l.Pairwise R) {i : Nat} {x : D} (hx : l[i]? = some x) (u : D) : u ∈ l.take i ++ l.drop (i + 1) ↔ u ∈ l ∧ u ≠ x := by
  have hi := (List.getElem?_eq_some_iff.1 hx).1
  have hd : l.drop i = x :: l.drop (i + 1) := drop_cons hx
  have hl0 := hl
  rw [← List.take_append_drop i l, hd, List.pairwise_append] at hl
  obtain ⟨_, p2, p3⟩ := hl
  obtain ⟨q1, _⟩ := List.pairwise_cons.1 p2
  have hm : u ∈ l ↔ u ∈ l.take i ∨ u = x ∨ u ∈ l.drop (i + 1) := by
    conv => lhs; rw [← List.take_append_drop i l, hd]
    simp
  rw [hm, List.mem_append]
  constructor
  · rintro (h | h)
    · exact ⟨.inl h, fun e => by subst e; exact ir u (p3 u h u (by simp))⟩
    · exact ⟨.inr (.inr h), fun e => by subst e; exact ir u (q1 u h)⟩
  · rintro ⟨h | h | h, hne⟩
    · exact .inl h
    · exact absurd h hne
    · exact .inr h
theorem mem_ins {l : List D} {i : Nat} {x : D} (u : D) : u ∈ l.take i ++ x :: l.drop i ↔ u ∈ l ∨ u = x := by
  have hm : u ∈ l ↔ u ∈ l.take i ∨ u ∈ l.drop i := by rw [← List.mem_append, List.take_append_drop]
  rw [hm]
  simp only [List.mem_append, List.mem_cons]
  constructor
  · rintro (h | h | h)
    · exact .inl (.inl h)
    · exact .inr h
    · exact .inl (.inr h)
  · rintro ((h | h) | h)
    · exact .inl h
    · exact .inr (.inr h)
    · exact .inr (.inl h)
end
theorem prpLt_ir : ∀ a, ¬ prpLt a a = true := by
  intro a h
  rw [prpLt_iff] at h
  have := (cmpS_zero (a := a.name) (b := a.name)).2 rfl
  omega
theorem prps_pw {r : List Prp} (h : recE r = 0) : r.Pairwise fun a b => prpLt a b = true := (chain_pw prpLt_tr).1 (rec_ok h).2.2
theorem name_uniq {r : List Prp} (h : recE r = 0) {p q : Prp} (hp : p ∈ r) (hq : q ∈ r) (e : p.name = q.name) : p = q := by
  have hpw := prps_pw h
  obtain ⟨i, hi⟩ := List.mem_iff_getElem?.1 hp
  obtain ⟨j, hj⟩ := List.mem_iff_getElem?.1 hq
  obtain ⟨hil, rfl⟩ := List.getElem?_eq_some_iff.1 hi
  obtain ⟨hjl, rfl⟩ := List.getElem?_eq_some_iff.1 hj
  have h0 := (cmpS_zero (a := r[i].name) (b := r[j].name)).2 e
  have h1 := cmpS_anti r[i].name r[j].name
  rcases Nat.lt_trichotomy i j with hl | hl | hl
  · have := prpLt_iff.1 (List.pairwise_iff_getElem.1 hpw i j hil hjl hl); omega
  · subst hl; rfl
  · have := prpLt_iff.1 (List.pairwise_iff_getElem.1 hpw j i hjl hil hl); omega
/-! ### What is there, by name -/
theorem rhas_mem {r : List Prp} (h : recE r = 0) (nm : ByteArray) : rhas r nm = true ↔ ∃ p ∈ r, p.name = nm := by
  constructor
  · intro hh
    obtain ⟨p, hp⟩ := rhas_some hh
    refine ⟨p, List.mem_of_getElem? hp, ?_⟩
    unfold rhas eqAt at hh
    rw [hp] at hh
    have : prpC nm p = 0 := by simpa using hh
    exact cmpS_zero.1 this
  · rintro ⟨p, hp, rfl⟩
    cases hq : rhas r p.name with
    | true => rfl
    | false =>
      obtain ⟨b1, b2⟩ := low_parts (c := prpC p.name) (rec_ok h).2.2 (prpC_mono p.name) hq (prp_hz p.name)
      have h0 : prpC p.name p = 0 := cmpS_zero.2 rfl
      rw [← List.take_append_drop (lowI (prpC p.name) r) r] at hp
      rcases List.mem_append.1 hp with hm | hm
      · have := b1 p hm; omega
      · have := b2 p hm; omega
theorem rpos_of {r : List Prp} (h : recE r = 0) {p : Prp} (hp : p ∈ r) : r[rpos r p.name]? = some p := by
  have hh := (rhas_mem h p.name).2 ⟨p, hp, rfl⟩
  obtain ⟨q, hq⟩ := rhas_some hh
  have hh2 := hh
  unfold rhas eqAt at hh2
  rw [hq] at hh2
  have : prpC p.name q = 0 := by simpa using hh2
  rw [hq, name_uniq h (List.mem_of_getElem? hq) hp (cmpS_zero.1 this)]

/-! ### Records, as sets -/
theorem unset_rec {r : List Prp} (h : recE r = 0) {p : Prp} (hp : p ∈ r) : unsetE r p.name = 0 ∧ ∀ q, q ∈ unsetR r p.name ↔ q ∈ r ∧ q.name ≠ p.name := by
  have hE : unsetE r p.name = 0 := by unfold unsetE; rw [if_pos h, (rhas_mem h p.name).2 ⟨p, hp, rfl⟩]; rfl
  refine ⟨hE, fun q => ?_⟩
  unfold unsetR
  rw [if_pos hE]
  refine (pw_erase prpLt_ir (prps_pw h) (rpos_of h hp) q).trans ⟨fun ⟨h1, h2⟩ => ⟨h1, fun e => h2 (name_uniq h h1 hp e)⟩, fun ⟨h1, h2⟩ => ⟨h1, fun e => h2 (by rw [e])⟩⟩
theorem set_rec {r : List Prp} (h : recE r = 0) {p : Prp} (he : prpE p = 0) (hl : (∃ q ∈ r, q.name = p.name) ∨ r.length < 8) : setE r p = 0 ∧ ∀ q, q ∈ setR r p ↔ (q ∈ r ∧ q.name ≠ p.name) ∨ q = p := by
  cases hh : rhas r p.name with
  | true =>
    have hE : setE r p = 0 := by unfold setE; rw [if_pos h, if_pos he, hh]; rfl
    refine ⟨hE, fun q => ?_⟩
    obtain ⟨x, hx, hxn⟩ := (rhas_mem h p.name).1 hh
    have hpos := rpos_of h hx
    rw [hxn] at hpos
    unfold setR putP
    rw [if_pos hE, hh, if_pos rfl]
    have hi := (List.getElem?_eq_some_iff.1 hpos).1
    generalize rpos r p.name = i at *
    constructor
    · intro hm
      obtain ⟨j, hj⟩ := List.mem_iff_getElem?.1 hm
      rw [List.getElem?_set] at hj
      split at hj
      · injection hj with hj; exact .inr hj.symm
      · rename_i hne
        refine .inl ⟨List.mem_of_getElem? hj, fun e => hne ?_⟩
        have hq := List.mem_of_getElem? hj
        have heq : q = x := name_uniq h hq hx (by rw [e, hxn])
        subst heq
        have hpw := prps_pw h
        obtain ⟨hjl, ej⟩ := List.getElem?_eq_some_iff.1 hj
        obtain ⟨hil, ei⟩ := List.getElem?_eq_some_iff.1 hpos
        rcases Nat.lt_trichotomy i j with hl | hl | hl
        · have := List.pairwise_iff_getElem.1 hpw i j hil hjl hl
          rw [ei, ej] at this; exact absurd this (prpLt_ir q)
        · exact hl
        · have := List.pairwise_iff_getElem.1 hpw j i hjl hil hl
          rw [ei, ej] at this; exact absurd this (prpLt_ir q)
    · rintro (⟨hm, hne⟩ | rfl)
      · obtain ⟨j, hj⟩ := List.mem_iff_getElem?.1 hm
        refine List.mem_iff_getElem?.2 ⟨j, ?_⟩
        rw [List.getElem?_set]
        rw [if_neg (fun e => by subst e; rw [hpos] at hj; injection hj with hj; exact hne (by rw [← hj, hxn]))]
        exact hj
      · refine List.mem_iff_getElem?.2 ⟨i, ?_⟩
        rw [List.getElem?_set_self hi]
  | false =>
    have hno : ∀ q ∈ r, q.name ≠ p.name := fun q hq e => by
      have := (rhas_mem h p.name).2 ⟨q, hq, e⟩
      rw [hh] at this; cases this
    have hl8 : r.length < 8 := by
      rcases hl with ⟨q, hq, e⟩ | hl
      · exact absurd e (hno q hq)
      · exact hl
    have hE : setE r p = 0 := by unfold setE; rw [if_pos h, if_pos he, hh, if_neg (by simp), if_neg (by omega)]
    refine ⟨hE, fun q => ?_⟩
    unfold setR putP
    rw [if_pos hE, hh, if_neg (by simp)]
    refine (mem_ins q).trans ⟨?_, ?_⟩
    · rintro (h1 | h1)
      · exact .inl ⟨h1, hno q h1⟩
      · exact .inr h1
    · rintro (h1 | h1)
      · exact .inl h1.1
      · exact .inr h1

theorem setE_parts {r : List Prp} {p : Prp} (h : setE r p = 0) : recE r = 0 ∧ prpE p = 0 ∧ ((∃ q ∈ r, q.name = p.name) ∨ r.length < 8) := by
  unfold setE at h
  by_cases h1 : recE r = 0
  · rw [if_pos h1] at h
    by_cases h2 : prpE p = 0
    · rw [if_pos h2] at h
      refine ⟨h1, h2, ?_⟩
      cases hh : rhas r p.name with
      | true => exact .inl ((rhas_mem h1 p.name).1 hh)
      | false =>
        rw [hh] at h
        right
        rcases Nat.lt_or_ge r.length 8 with h3 | h3
        · exact h3
        · simp [h3] at h
    · rw [if_neg h2] at h; exact absurd h h2
  · rw [if_neg h1] at h; exact absurd h h1
theorem get_has {r : List Prp} (h : recE r = 0) (nm : ByteArray) : getE r nm = if rhas r nm then 0 else 5 := by
  unfold getE; rw [if_pos h]
theorem get_at {r : List Prp} (h : recE r = 0) {q : Prp} (hq : q ∈ r) : getE r q.name = 0 ∧ getV r q.name = q.v := by
  have hh : rhas r q.name = true := (rhas_mem h q.name).2 ⟨q, hq, rfl⟩
  have hE : getE r q.name = 0 := by rw [get_has h, hh]; rfl
  refine ⟨hE, ?_⟩
  unfold getV
  rw [if_pos hE, rpos_of h hq]
theorem get_not {r : List Prp} (h : recE r = 0) {nm : ByteArray} (hn : ∀ q ∈ r, q.name ≠ nm) : getE r nm = 5 ∧ getV r nm = noVal := by
  have hh : rhas r nm = false := by
    cases hq : rhas r nm with
    | false => rfl
    | true => obtain ⟨q, h1, h2⟩ := (rhas_mem h nm).1 hq; exact absurd h2 (hn q h1)
  have hE : getE r nm = 5 := by rw [get_has h, hh]; rfl
  refine ⟨hE, ?_⟩
  unfold getV
  rw [hE]; rfl
theorem set_back {r : List Prp} {p : Prp} (h : setE r p = 0) : recE (setR r p) = 0 ∧ getE (setR r p) p.name = 0 ∧ getV (setR r p) p.name = p.v := by
  have hx := set_right h
  obtain ⟨h1, h2, h3⟩ := setE_parts h
  have hm := (set_rec h1 h2 h3).2
  obtain ⟨g1, g2⟩ := get_at hx ((hm p).2 (.inr rfl))
  exact ⟨hx, g1, g2⟩
theorem set_else {r : List Prp} {p : Prp} (h : setE r p = 0) {nm : ByteArray} (hn : nm ≠ p.name) : getV r nm = getV (setR r p) nm ∧ (getE r nm = 0 ↔ getE (setR r p) nm = 0) := by
  have hx := set_right h
  obtain ⟨h1, h2, h3⟩ := setE_parts h
  have hm := (set_rec h1 h2 h3).2
  cases hh : rhas r nm with
  | true =>
    obtain ⟨q, hq, hqn⟩ := (rhas_mem h1 nm).1 hh
    subst hqn
    obtain ⟨a1, a2⟩ := get_at h1 hq
    obtain ⟨b1, b2⟩ := get_at hx ((hm q).2 (.inl ⟨hq, hn⟩))
    rw [a1, a2, b1, b2]; exact ⟨rfl, Iff.rfl⟩
  | false =>
    have k1 : ∀ q ∈ r, q.name ≠ nm := fun q hq e => by
      have := (rhas_mem h1 nm).2 ⟨q, hq, e⟩
      rw [hh] at this; cases this
    obtain ⟨a1, a2⟩ := get_not h1 k1
    obtain ⟨b1, b2⟩ := get_not hx (nm := nm) fun q hq e => by
      rcases (hm q).1 hq with ⟨hq, _⟩ | rfl
      · exact k1 q hq e
      · exact hn e.symm
    rw [a1, a2, b1, b2]; exact ⟨rfl, Iff.rfl⟩
theorem unset_back {r : List Prp} {p : Prp} (h : setE r p = 0) : unsetE (setR r p) p.name = 0 ∧ getE (unsetR (setR r p) p.name) p.name = 5 ∧ (unsetR (setR r p) p.name).length + 1 = (setR r p).length := by
  have hx := set_right h
  obtain ⟨h1, h2, h3⟩ := setE_parts h
  have hp := ((set_rec h1 h2 h3).2 p).2 (.inr rfl)
  obtain ⟨u1, u2⟩ := unset_rec hx hp
  have hy := unset_right u1
  refine ⟨u1, (get_not hy fun q hq => ((u2 q).1 hq).2).1, ?_⟩
  have hpos := rpos_of hx hp
  have hlt := (List.getElem?_eq_some_iff.1 hpos).1
  unfold unsetR
  rw [if_pos u1, List.length_append, List.length_take, List.length_drop]
  omega
open Go Go.RowKit

theorem Own.shift {P : Program} {w : World} {B : Nat} {e : TypeId} {g o n c i sz : Nat} {xs : List Value} (t : TypeId) (i0 : TypeInfo) (ht : P.underlying t = some (.slice e)) (hi : P.info? e = some i0) (hs : i0.size = sz)
    (h : Own w B e sz (.slice (some ⟨g, o, none⟩) n c) n xs) (hx1 : ∀ u ∈ xs, u.oneCell' = true) (hin : i < n) (a : Addr) (ha : ∀ j u, (xs.drop ((i + 1) * sz))[j]? = some u → w.cell? (a.add j) = some u) :
    ∃ w', (∀ ty c', (Builtin.append_ #[t, t] ty #[.slice (some ⟨g, o, none⟩) i c, .slice (some a) (n - (i + 1)) c']).run P w = .ok (.slice (some ⟨g, o, none⟩) (n - 1) c) w') ∧
      Own w' B e sz (.slice (some ⟨g, o, none⟩) n c) n (xs.take (i * sz) ++ xs.drop ((i + 1) * sz) ++ xs.drop ((n - 1) * sz)) ∧ w.grownBy w' (some g) := by
  rcases h.2 with ⟨h0, _⟩ | ⟨g', o', cap, cur, hv, hb, hg, h2, h3, h4, h5⟩
  · cases h0
  · injection hv with e1 _ e3
    injection e1 with e1
    injection e1 with e1 e2
    subst e1; subst e2; subst e3
    have hlen := h.1
    have hnc : n * sz ≤ c * sz := Nat.mul_le_mul_right _ h2
    have hin2 : i * sz + sz ≤ n * sz := by have := Nat.mul_le_mul_right sz (show i + 1 ≤ n by omega); rw [Nat.add_mul, Nat.one_mul] at this; exact this
    have e5 : (i + 1) * sz = i * sz + sz := by rw [Nat.add_mul, Nat.one_mul]
    have e6 : (n - 1) * sz = n * sz - sz := by rw [Nat.sub_mul, Nat.one_mul]
    have e7 : (n - (i + 1)) * sz = n * sz - (i * sz + sz) := by rw [Nat.sub_mul, e5]
    have hdl : (xs.drop ((i + 1) * sz)).length = (n - (i + 1)) * sz := by rw [List.length_drop, hlen, Nat.sub_mul]
    have e8 : i + (n - (i + 1)) = n - 1 := by omega
    refine ⟨w.setRow g (cur.toList.take (o + i * sz) ++ xs.drop ((i + 1) * sz) ++ cur.toList.drop (o + i * sz + (xs.drop ((i + 1) * sz)).length)).toArray, fun ty c' => ?_, ⟨?_, .inr ⟨g, o, c, _, rfl, hb, setRow_heap w g cur _ e _ hg, h2, h3, ?_, ?_⟩⟩, grownBy_setRow⟩
    · have := run_append_at (P := P) w t ty e i0 ht hi g o i c cur hg a (n - (i + 1)) c' (xs.drop ((i + 1) * sz)) (by rw [hs, hdl]) ha (fun u hu => hx1 u (List.mem_of_mem_drop hu)) (by omega) (by rw [hs, hdl, e7]; omega)
      rw [hs, e8] at this
      exact this
    · simp only [List.length_append, List.length_take, List.length_drop, hlen, e5, e6]
      omega
    · simp only [List.size_toArray, List.length_append, List.length_take, List.length_drop, Array.length_toList, hlen, e5]
      omega
    · have hcl : cur.toList = cur.toList.take o ++ xs ++ cur.toList.drop (o + n * sz) := by
        conv => lhs; rw [← List.take_append_drop o cur.toList, ← List.take_append_drop (n * sz) (cur.toList.drop o), h5]
        rw [List.drop_drop, List.append_assoc]
      have hol : (cur.toList.take o).length = o := by simp; omega
      generalize cur.toList.take o = A at *
      generalize cur.toList.drop (o + n * sz) = C at *
      rw [hcl, hdl, e7, e5, e6]
      subst hol
      have hxs : xs = xs.take (i * sz) ++ xs.drop (i * sz) := (List.take_append_drop _ _).symm
      have t1 : (A ++ xs ++ C).take (A.length + i * sz) = A ++ xs.take (i * sz) := by
        rw [List.append_assoc, List.take_append, List.take_of_length_le (by omega), show A.length + i * sz - A.length = i * sz by omega, List.take_append_of_le_length (by omega)]
      have t2 : (A ++ xs ++ C).drop (A.length + i * sz + (n * sz - (i * sz + sz))) = xs.drop (n * sz - sz) ++ C := by
        rw [List.append_assoc, List.drop_append, List.drop_of_length_le (by omega), List.nil_append, List.drop_append_of_le_length (by omega)]
        congr 2
        omega
      rw [t1, t2]
      show ((A ++ xs.take (i * sz) ++ xs.drop (i * sz + sz) ++ (xs.drop (n * sz - sz) ++ C)).drop A.length).take (n * sz) = _
      rw [List.append_assoc, List.append_assoc, List.drop_left]
      rw [show xs.take (i * sz) ++ (xs.drop (i * sz + sz) ++ (xs.drop (n * sz - sz) ++ C)) = (xs.take (i * sz) ++ xs.drop (i * sz + sz) ++ xs.drop (n * sz - sz)) ++ C by simp]
      rw [List.take_append_of_le_length (by simp; omega), List.take_of_length_le (by simp; omega)]







end Go.Proofs.YtmbeeaohidgfgaaGreatDoor
