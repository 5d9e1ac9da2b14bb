/- Parts: KinP, KinH, Chk1, Chk2, KinI, KinJ, KinK, Chk3, Mk, SchA, GNode, EndP. -/
import Derived.Test.YtfjnkidblalckaaMg17
import Derived.Test.YtfjnkidblalckaaMg03
import Derived.Test.YtfjnkidblalckaaMg02
import Derived.Test.YtfjnkidblalckaaMg07
import Derived.Deep.DeepCutAuto
import Derived.Test.YtfjnkidblalckaaMg04
import Derived.Deep.RegionHeld3
import Derived.Test.YtfjnkidblalckaaMg06
import Derived.Test.YtfjnkidblalckaaMg05
import Derived.MapKept
import Derived.Test.YtfjnkidblalckaaMg08
import Derived.Test.YtfjnkidblalckaaMg11
/- Plain: kinds that are right: kin of kin is kin; a kind has all fields of its kin. -/
namespace Go.Proofs.Ytfjnkidblalckaa

/-! ### What is wrong with kinds -/
def ofsE (l : List Knd) : List ByteArray → List ByteArray → Int
  | _, [] => 0
  | p, s :: r => if kFind l s < 0 then 5 else if p.any (fun y => decide (s = y)) then 7 else ofsE l (p ++ [s]) r
def sumE : Option (List Fld) → Int
  | none => 7
  | some fs => if 8 < fs.length then 4 else 0
def oneE (l : List Knd) (k : Knd) : Int :=
  if nameE k.name = 0 then
    if 0 ≤ kFind l k.name then 7
    else if 4 < k.ofs.length then 4
    else if 8 < k.fields.length then 4
    else if ofsE l [] k.ofs = 0 then
      if fldsE none k.fields = 0 then sumE (fieldsOf (l ++ [k]) k.name)
      else fldsE none k.fields
    else ofsE l [] k.ofs
  else nameE k.name
def kindsE : List Knd → List Knd → ByteArray × Int
  | _, [] => (.empty, 0)
  | p, k :: r => if oneE p k = 0 then kindsE (p ++ [k]) r else (k.name, oneE p k)
def checkE (l : List Knd) : ByteArray × Int := if 12 < l.length then (.empty, 4) else kindsE [] l

/-! ### Where it is -/
theorem idxI_nonneg {D : Type} {p : D → Bool} {l : List D} (h : 0 ≤ idxI p l) : ∃ (k : Nat) (d : D), idxI p l = k ∧ l[k]? = some d ∧ p d = true ∧ ∀ j x, j < k → l[j]? = some x → p x = false := by
  induction l with
  | nil => rw [show idxI p ([] : List D) = -1 from idxI_miss (fun j x hj => absurd hj (Nat.not_lt_zero _))] at h; omega
  | cons a l ih =>
    by_cases ha : p a = true
    · refine ⟨0, a, ?_, rfl, ha, fun j x hj => absurd hj (Nat.not_lt_zero _)⟩
      have := idxI_hit (p := p) (l := a :: l) (k := 0) (d := a) (fun j x hj => absurd hj (Nat.not_lt_zero _)) rfl ha
      simpa using this
    · have hf : p a = false := by simpa using ha
      by_cases hall : ∃ (k : Nat) (d : D), l[k]? = some d ∧ p d = true
      · have : l.any p = true := by obtain ⟨k, d, h1, h2⟩ := hall; exact List.any_eq_true.2 ⟨d, List.mem_of_getElem? h1, h2⟩
        rw [← idxI_any] at this
        obtain ⟨k, d, h1, h2, h3, h4⟩ := ih (by simpa using this)
        have hm : ∀ j x, j < k + 1 → (a :: l)[j]? = some x → p x = false := by
          intro j x hj hx
          cases j with
          | zero => simp at hx; subst hx; exact hf
          | succ j => exact h4 j x (by omega) (by simpa using hx)
        exact ⟨k + 1, d, idxI_hit hm (by simpa using h2) h3, by simpa using h2, h3, hm⟩
      · exfalso
        have hm : ∀ j x, j < (a :: l).length → (a :: l)[j]? = some x → p x = false := by
          intro j x _ hx
          cases j with
          | zero => simp at hx; subst hx; exact hf
          | succ j =>
            cases hp : p x with
            | false => rfl
            | true => exact absurd ⟨j, x, by simpa using hx, hp⟩ hall
        have := idxI_miss hm
        omega
theorem kFind_neg {l : List Knd} {s : ByteArray} (h : kFind l s < 0) : ∀ k ∈ l, k.name ≠ s := by
  intro k hk e
  have : l.any (fun k => decide (k.name = s)) = true := List.any_eq_true.2 ⟨k, hk, by simpa using e⟩
  rw [← idxI_any] at this
  unfold kFind at h
  simp at this
  omega
theorem kFind_pos {l : List Knd} {s : ByteArray} (h : 0 ≤ kFind l s) : ∃ (i : Nat) (k : Knd), kFind l s = i ∧ l[i]? = some k ∧ k.name = s ∧ ∀ j x, j < i → l[j]? = some x → x.name ≠ s := by
  obtain ⟨k, d, h1, h2, h3, h4⟩ := idxI_nonneg h
  exact ⟨k, d, h1, h2, by simpa using h3, fun j x hj hx => by simpa using h4 j x hj hx⟩
theorem kFind_mem {l : List Knd} {k : Knd} (h : k ∈ l) : 0 ≤ kFind l k.name := by
  rcases Int.lt_or_le (kFind l k.name) 0 with h0 | h0
  · exact absurd rfl (kFind_neg h0 k h)
  · exact h0
theorem find_of_kFind {l : List Knd} {s : ByteArray} {i : Nat} {k : Knd} (h1 : kFind l s = i) (h2 : l[i]? = some k) : l.find? (fun k => decide (k.name = s)) = some k := by
  obtain ⟨i', k', e1, e2, e3, e4⟩ := kFind_pos (l := l) (s := s) (by rw [h1]; omega)
  have : i' = i := by omega
  subst this
  rw [h2] at e2
  injection e2 with e2
  subst e2
  rw [List.find?_eq_some_iff_getElem]
  obtain ⟨hl, hk⟩ := List.getElem?_eq_some_iff.1 h2
  exact ⟨by simpa using e3, i', hl, hk, fun j hj => by simpa using e4 j _ hj (List.getElem?_eq_getElem _)⟩

/-! ### Kinds that are right -/
/-- Each of another name; each comes of what stands ahead. -/
def Wf (l : List Knd) : Prop := ∀ (i : Nat) k, l[i]? = some k → (∀ (j : Nat) x, j < i → l[j]? = some x → x.name ≠ k.name) ∧ (∀ s ∈ k.ofs, ∃ (j : Nat) (x : Knd), j < i ∧ l[j]? = some x ∧ x.name = s)
theorem ofsE_zero {l : List Knd} : ∀ {r p : List ByteArray}, ofsE l p r = 0 → ∀ s ∈ r, 0 ≤ kFind l s
  | [], _, _, s, hs => by simp at hs
  | t :: r, p, h, s, hs => by
    rw [ofsE] at h
    split at h
    · omega
    · split at h
      · omega
      · rename_i h1 _
        rcases List.mem_cons.1 hs with rfl | hs
        · omega
        · exact ofsE_zero h s hs
structure OneOk (l : List Knd) (k : Knd) : Prop where
  nm : nameE k.name = 0
  new : kFind l k.name < 0
  ofl : k.ofs.length ≤ 4
  fll : k.fields.length ≤ 8
  ofs : ofsE l [] k.ofs = 0
  fls : fldsE none k.fields = 0
  all : ∃ fs, fieldsOf (l ++ [k]) k.name = some fs ∧ fs.length ≤ 8
theorem oneE_zero {l : List Knd} {k : Knd} (h : oneE l k = 0) : OneOk l k := by
  unfold oneE at h
  by_cases h1 : nameE k.name = 0
  · rw [if_pos h1] at h
    by_cases h2 : 0 ≤ kFind l k.name
    · rw [if_pos h2] at h; omega
    rw [if_neg h2] at h
    by_cases h3 : 4 < k.ofs.length
    · rw [if_pos h3] at h; omega
    rw [if_neg h3] at h
    by_cases h4 : 8 < k.fields.length
    · rw [if_pos h4] at h; omega
    rw [if_neg h4] at h
    by_cases h5 : ofsE l [] k.ofs = 0
    · rw [if_pos h5] at h
      by_cases h6 : fldsE none k.fields = 0
      · rw [if_pos h6] at h
        cases h7 : fieldsOf (l ++ [k]) k.name with
        | none => rw [h7] at h; simp [sumE] at h
        | some fs =>
          rw [h7] at h
          simp only [sumE] at h
          split at h
          · omega
          · exact ⟨h1, by omega, by omega, by omega, h5, h6, fs, h7, by omega⟩
      · rw [if_neg h6] at h; exact absurd h h6
    · rw [if_neg h5] at h; exact absurd h h5
  · rw [if_neg h1] at h; exact absurd h h1
theorem kindsE_zero : ∀ {r p : List Knd}, (kindsE p r).2 = 0 → ∀ (i : Nat) k, r[i]? = some k → OneOk (p ++ r.take i) k
  | [], _, _, i, k, h => by simp at h
  | x :: r, p, h, i, k, hk => by
    rw [kindsE] at h
    split at h
    · rename_i h0
      cases i with
      | zero => simp at hk; subst hk; simpa using oneE_zero h0
      | succ i =>
        have := kindsE_zero h i k (by simpa using hk)
        simpa using this
    · rename_i h0; exact absurd h h0
structure Right (l : List Knd) : Prop where
  len : l.length ≤ 12
  one : ∀ (i : Nat) k, l[i]? = some k → OneOk (l.take i) k
theorem checkE_zero {l : List Knd} (h : (checkE l).2 = 0) : Right l := by
  unfold checkE at h
  split at h
  · simp at h
  · exact ⟨by omega, fun i k hk => by simpa using kindsE_zero h i k hk⟩
theorem take_get {D : Type} {l : List D} {i j : Nat} {x : D} (h : j < i) (hx : l[j]? = some x) : (l.take i)[j]? = some x := by rw [List.getElem?_take, if_pos h, hx]
theorem Right.wf {l : List Knd} (h : Right l) : Wf l := by
  intro i k hk
  have ho := h.one i k hk
  refine ⟨fun j x hj hx => kFind_neg ho.new x (List.mem_of_getElem? (take_get hj hx)), fun s hs => ?_⟩
  obtain ⟨j, x, h1, h2, h3, _⟩ := kFind_pos (ofsE_zero ho.ofs s hs)
  rw [List.getElem?_take] at h2
  split at h2
  · exact ⟨j, x, by assumption, h2, h3⟩
  · cases h2
theorem Right.take {l : List Knd} (h : Right l) (n : Nat) : Right (l.take n) := by
  refine ⟨by have := h.len; simp; omega, fun i k hk => ?_⟩
  rw [List.getElem?_take] at hk
  split at hk
  · have := h.one i k hk
    rw [List.take_take, Nat.min_eq_left (by omega)]; exact this
  · cases hk
theorem Wf.take {l : List Knd} (h : Wf l) (n : Nat) : Wf (l.take n) := by
  intro i k hk
  rw [List.getElem?_take] at hk
  split at hk
  · rename_i hin
    obtain ⟨h1, h2⟩ := h i k hk
    refine ⟨fun j x hj hx => ?_, fun s hs => ?_⟩
    · rw [List.getElem?_take] at hx
      split at hx
      · exact h1 j x hj hx
      · cases hx
    · obtain ⟨j, x, e1, e2, e3⟩ := h2 s hs
      exact ⟨j, x, e1, take_get (by omega) e2, e3⟩
  · cases hk

/-! ### Kin -/
def kinFrom (l : List Knd) (S : ByteArray → Bool) : ByteArray → Bool := l.foldr (fun k S => kinStep S k) S
theorem kinSet_eq (l : List Knd) (name : ByteArray) : kinSet l name = kinFrom l (fun s => decide (name = s)) := rfl
theorem kinFrom_append (p q : List Knd) (S : ByteArray → Bool) : kinFrom (p ++ q) S = kinFrom p (kinFrom q S) := by unfold kinFrom; rw [List.foldr_append]
theorem kinStep_mono {S : ByteArray → Bool} {k : Knd} {s : ByteArray} (h : S s = true) : kinStep S k s = true := by unfold kinStep; split <;> simp [h]
theorem kinFrom_mono : ∀ {l : List Knd} {S : ByteArray → Bool} {s : ByteArray}, S s = true → kinFrom l S s = true
  | [], _, _, h => h
  | _ :: l, S, _, h => kinStep_mono (S := kinFrom l S) (kinFrom_mono (l := l) h)
theorem kinStep_inv {S : ByteArray → Bool} {k : Knd} {s : ByteArray} (h : kinStep S k s = true) : S s = true ∨ s ∈ k.ofs := by
  unfold kinStep at h
  split at h
  · simp only [Bool.or_eq_true, List.any_eq_true, decide_eq_true_eq] at h
    rcases h with h | ⟨o, ho, rfl⟩
    · exact .inl h
    · exact .inr ho
  · exact .inl h
theorem kinFrom_inv : ∀ {l : List Knd} {S : ByteArray → Bool} {s : ByteArray}, kinFrom l S s = true → S s = true ∨ ∃ k ∈ l, s ∈ k.ofs
  | [], _, _, h => .inl h
  | k :: l, S, s, h => by
    rcases kinStep_inv (S := kinFrom l S) h with h | h
    · rcases kinFrom_inv (l := l) h with h | ⟨x, hx, h⟩
      · exact .inl h
      · exact .inr ⟨x, List.mem_cons_of_mem _ hx, h⟩
    · exact .inr ⟨k, List.mem_cons_self .., h⟩
/-- Closed under what kinds come of. -/
def Closed (l : List Knd) (T : ByteArray → Bool) : Prop := ∀ k ∈ l, T k.name = true → ∀ o ∈ k.ofs, T o = true
theorem kinFrom_least : ∀ {l : List Knd} {S T : ByteArray → Bool}, Closed l T → (∀ s, S s = true → T s = true) → ∀ s, kinFrom l S s = true → T s = true
  | [], _, _, _, h, s, hs => h s hs
  | k :: l, S, T, hc, h, s, hs => by
    have ih := kinFrom_least (l := l) (S := S) (T := T) (fun x hx => hc x (List.mem_cons_of_mem _ hx)) h
    have hs : kinStep (kinFrom l S) k s = true := hs
    unfold kinStep at hs
    split at hs
    · rename_i hk
      simp only [Bool.or_eq_true, List.any_eq_true, decide_eq_true_eq] at hs
      rcases hs with hs | ⟨o, ho, rfl⟩
      · exact ih s hs
      · exact hc k (List.mem_cons_self ..) (ih _ hk) o ho
    · exact ih s hs
theorem kinFrom_closed {l : List Knd} (hw : Wf l) : ∀ (n : Nat) (S : ByteArray → Bool), Closed (l.take n) (kinFrom (l.take n) S)
  | 0, S => by intro k hk; simp at hk
  | n + 1, S => by
    by_cases hn : n < l.length
    · have hx : l[n]? = some l[n] := List.getElem?_eq_getElem hn
      have ht : l.take (n + 1) = l.take n ++ [l[n]] := by rw [List.take_add_one, hx]; rfl
      generalize l[n] = x at hx ht
      have hS : kinFrom [x] S = kinStep S x := rfl
      rw [ht, kinFrom_append, hS]
      obtain ⟨hw1, hw2⟩ := hw n x hx
      intro k hk hkn o ho
      rcases List.mem_append.1 hk with hk | hk
      · exact kinFrom_closed hw n _ k hk hkn o ho
      · simp at hk
        subst hk
        have h1 : kinStep S k k.name = true := by
          rcases kinFrom_inv hkn with h | ⟨y, hy, h⟩
          · exact h
          · exfalso
            obtain ⟨i, hi⟩ := List.mem_iff_getElem?.1 hy
            rw [List.getElem?_take] at hi
            split at hi
            · obtain ⟨j, z, e1, e2, e3⟩ := (hw i y hi).2 _ h
              exact hw1 j z (by omega) e2 e3
            · cases hi
        have h2 : S k.name = true := by
          unfold kinStep at h1
          split at h1
          · assumption
          · exact h1
        refine kinFrom_mono ?_
        unfold kinStep
        rw [if_pos h2]
        simp only [Bool.or_eq_true, List.any_eq_true, decide_eq_true_eq]
        exact .inr ⟨o, ho, rfl⟩
    · have ht : l.take (n + 1) = l.take n := by rw [List.take_of_length_le (by omega), List.take_of_length_le (by omega)]
      rw [ht]
      exact kinFrom_closed hw n S
theorem kinSet_closed {l : List Knd} (hw : Wf l) (name : ByteArray) : Closed l (kinSet l name) := by
  have := kinFrom_closed hw l.length (fun s => decide (name = s))
  rw [List.take_length] at this
  exact this
theorem kinSet_self (l : List Knd) (name : ByteArray) : kinSet l name name = true := kinFrom_mono (by simp)
theorem kinSet_trans {l : List Knd} (hw : Wf l) {a b c : ByteArray} (h1 : kinSet l a b = true) (h2 : kinSet l b c = true) : kinSet l a c = true :=
  kinFrom_least (kinSet_closed hw a) (fun s hs => by simp at hs; subst hs; exact h1) c h2
theorem mem_kinL {l : List Knd} {a s : ByteArray} : s ∈ kinL l a ↔ (∃ k ∈ l, k.name = s) ∧ kinSet l a s = true := by
  unfold kinL
  simp only [List.mem_map, List.mem_filter]
  constructor
  · rintro ⟨k, ⟨h1, h2⟩, rfl⟩; exact ⟨⟨k, h1, rfl⟩, h2⟩
  · rintro ⟨⟨k, h1, rfl⟩, h2⟩; exact ⟨k, ⟨h1, h2⟩, rfl⟩
theorem kinL_trans {l : List Knd} (hw : Wf l) {a b c : ByteArray} (h1 : b ∈ kinL l a) (h2 : c ∈ kinL l b) : c ∈ kinL l a := by
  rw [mem_kinL] at *
  exact ⟨h2.1, kinSet_trans hw h1.2 h2.2⟩
theorem kinL_self {l : List Knd} {k : Knd} (h : k ∈ l) : k.name ∈ kinL l k.name := mem_kinL.2 ⟨⟨k, h, rfl⟩, kinSet_self _ _⟩

/-! ### Fields -/
theorem allF_mem : ∀ {fs acc out : List Fld}, fs.foldlM putF acc = some out → ∀ x, x ∈ out ↔ x ∈ acc ∨ x ∈ fs
  | [], acc, out, h, x => by
    simp only [List.foldlM_nil] at h
    injection h with h; subst h; simp
  | f :: fs, acc, out, h, x => by
    rw [List.foldlM_cons] at h
    cases hp : putF acc f with
    | none => rw [hp] at h; cases h
    | some acc' =>
      rw [hp] at h
      have := allF_mem (show fs.foldlM putF acc' = some out from h) x
      rw [this, mem_putF hp, List.mem_cons]
      constructor
      · rintro ((h | h) | h) <;> simp [h]
      · rintro (h | h | h) <;> simp [h]
def fldsFor (l : List Knd) (s : ByteArray) : List Fld := match l.find? (fun k => decide (k.name = s)) with | some k => k.fields | none => []
theorem fieldsOf_eq (l : List Knd) (name : ByteArray) : fieldsOf l name = allF ((kinL l name).flatMap (fldsFor l)) := rfl
theorem fieldsOf_mem {l : List Knd} {a : ByteArray} {fs : List Fld} (h : fieldsOf l a = some fs) (x : Fld) : x ∈ fs ↔ ∃ s ∈ kinL l a, x ∈ fldsFor l s := by
  rw [fieldsOf_eq] at h
  rw [allF_mem h x]
  simp
theorem fieldsOf_sub {l : List Knd} (hw : Wf l) {a b : ByteArray} {fs gs : List Fld} (ha : fieldsOf l a = some fs) (hb : fieldsOf l b = some gs) (hab : b ∈ kinL l a) : ∀ x ∈ gs, x ∈ fs := by
  intro x hx
  rw [fieldsOf_mem hb] at hx
  rw [fieldsOf_mem ha]
  obtain ⟨s, hs, h⟩ := hx
  exact ⟨s, kinL_trans hw hab hs, h⟩
/-- What stands behind a kind turns nothing of its kin. -/
theorem kinSet_take {l : List Knd} (hw : Wf l) {i : Nat} {k : Knd} (hk : l[i]? = some k) : kinSet l k.name = kinSet (l.take (i + 1)) k.name := by
  rw [kinSet_eq, kinSet_eq]
  conv => lhs; rw [← List.take_append_drop (i + 1) l]
  rw [kinFrom_append]
  congr 1
  have : ∀ q : List Knd, (∀ x ∈ q, x.name ≠ k.name) → kinFrom q (fun s => decide (k.name = s)) = fun s => decide (k.name = s) := by
    intro q
    induction q with
    | nil => intro _; rfl
    | cons y q ih =>
      intro hq
      have h1 := ih (fun x hx => hq x (List.mem_cons_of_mem _ hx))
      show kinStep (kinFrom q _) y = _
      rw [h1]
      unfold kinStep
      rw [if_neg]
      have := hq y (List.mem_cons_self ..)
      simpa using fun e => this e.symm
  refine this _ fun x hx => ?_
  obtain ⟨j, hj⟩ := List.mem_iff_getElem?.1 hx
  rw [List.getElem?_drop] at hj
  intro e
  exact (hw _ x hj).1 i k (by omega) hk e.symm
theorem kinL_take {l : List Knd} (hw : Wf l) {i : Nat} {k : Knd} (hk : l[i]? = some k) : kinL l k.name = kinL (l.take (i + 1)) k.name := by
  unfold kinL
  rw [← kinSet_take hw hk]
  have hsp : l.filter (fun x => kinSet l k.name x.name) = (l.take (i + 1)).filter (fun x => kinSet l k.name x.name) ++ (l.drop (i + 1)).filter (fun x => kinSet l k.name x.name) := by
    rw [← List.filter_append, List.take_append_drop]
  rw [hsp]
  have : (l.drop (i + 1)).filter (fun x => kinSet l k.name x.name) = [] := by
    rw [List.filter_eq_nil_iff]
    intro x hx hs
    obtain ⟨j, hj⟩ := List.mem_iff_getElem?.1 hx
    rw [List.getElem?_drop] at hj
    rw [kinSet_take hw hk, kinSet_eq] at hs
    rcases kinFrom_inv hs with h | ⟨y, hy, h⟩
    · simp at h
      exact (hw _ x hj).1 i k (by omega) hk h
    · obtain ⟨m, hm⟩ := List.mem_iff_getElem?.1 hy
      rw [List.getElem?_take] at hm
      split at hm
      · obtain ⟨n, z, e1, e2, e3⟩ := (hw m y hm).2 _ h
        exact (hw _ x hj).1 n z (by omega) e2 e3
      · cases hm
  rw [this, List.append_nil]
theorem fldsFor_take {l : List Knd} {n : Nat} {s : ByteArray} (h : ∃ k ∈ l.take n, k.name = s) : fldsFor l s = fldsFor (l.take n) s := by
  unfold fldsFor
  have : l.find? (fun k => decide (k.name = s)) = (l.take n).find? (fun k => decide (k.name = s)) := by
    conv => lhs; rw [← List.take_append_drop n l]
    rw [List.find?_append]
    have hs : ((l.take n).find? (fun k => decide (k.name = s))).isSome := by
      rw [List.find?_isSome]
      obtain ⟨k, h1, h2⟩ := h
      exact ⟨k, h1, by simpa using h2⟩
    obtain ⟨y, hy⟩ := Option.isSome_iff_exists.1 hs
    rw [hy]; rfl
  rw [this]
theorem flatMap_congr {A B : Type} {l : List A} {f g : A → List B} (h : ∀ x ∈ l, f x = g x) : l.flatMap f = l.flatMap g := by
  induction l with
  | nil => rfl
  | cons a l ih =>
    rw [List.flatMap_cons, List.flatMap_cons, h a (List.mem_cons_self ..), ih fun x hx => h x (List.mem_cons_of_mem _ hx)]
theorem fieldsOf_take {l : List Knd} (hw : Wf l) {i : Nat} {k : Knd} (hk : l[i]? = some k) : fieldsOf l k.name = fieldsOf (l.take (i + 1)) k.name := by
  rw [fieldsOf_eq, fieldsOf_eq, kinL_take hw hk]
  congr 1
  exact flatMap_congr fun s hs => fldsFor_take (mem_kinL.1 hs).1
theorem Right.fields {l : List Knd} (h : Right l) {k : Knd} (hk : k ∈ l) : ∃ fs, fieldsOf l k.name = some fs ∧ fs.length ≤ 8 := by
  obtain ⟨i, hi⟩ := List.mem_iff_getElem?.1 hk
  obtain ⟨fs, h1, h2⟩ := (h.one i k hi).all
  refine ⟨fs, ?_, h2⟩
  rw [fieldsOf_take h.wf hi, List.take_add_one, hi]
  exact h1
end Go.Proofs.Ytfjnkidblalckaa

/- Contract: kind.FieldsOf: a kind's fields, all of its kin's. -/
namespace Go.Proofs.Ytfjnkidblalckaa
open Go Go.RowKit

def FieldsR (l : List Knd) (name : ByteArray) (w : World) (e : Ending) (w' : World) : Prop :=
  ∃ u, e = .returned (.tuple #[u, .bool (fieldsOf l name).isSome]) ∧ Sl fldL w' u ((fieldsOf l name).getD []) ∧ Below w.heap.size w w'
theorem kin_known {l : List Knd} {name : ByteArray} : ∀ s ∈ kinL l name, ∃ (i : Nat) (k : Knd), kFind l s = i ∧ l[i]? = some k ∧ fldsFor l s = k.fields := by
  intro s hs
  obtain ⟨⟨k, hk, rfl⟩, _⟩ := mem_kinL.1 hs
  obtain ⟨i, x, h1, h2, h3, _⟩ := kFind_pos (kFind_mem hk)
  refine ⟨i, x, h1, h2, ?_⟩
  unfold fldsFor
  rw [find_of_kFind h1 h2]
theorem kinL_len (l : List Knd) (name : ByteArray) : (kinL l name).length ≤ l.length := by
  unfold kinL
  rw [List.length_map]
  exact List.length_filter_le _ _
theorem fold_step {f : Fld} {rest acc : List Fld} {r : Option (List Fld)} (h : r = (f :: rest).foldlM putF acc) : (∀ acc', putF acc f = some acc' → r = rest.foldlM putF acc') ∧ (putF acc f = none → r = none) := by
  rw [h, List.foldlM_cons]
  exact ⟨fun acc' e => by rw [e]; rfl, fun e => by rw [e]; rfl⟩
theorem put_new {acc : List Fld} {f : Fld} (h : eqAt (fldC f.name) acc (lowI (fldC f.name) acc) = false) : putF acc f = some (acc.take (lowI (fldC f.name) acc) ++ f :: acc.drop (lowI (fldC f.name) acc)) := by
  unfold putF; rw [h]; simp
theorem put_old {acc : List Fld} {f q : Fld} (h : eqAt (fldC f.name) acc (lowI (fldC f.name) acc) = true) (hq : acc[lowI (fldC f.name) acc]? = some q) : putF acc f = if q = f then some acc else none := by
  unfold putF; rw [h, hq]; simp
theorem eqAt_some {D : Type} {c : D → Int} {l : List D} {p : Nat} (h : eqAt c l p = true) : ∃ d, l[p]? = some d := by
  unfold eqAt at h
  cases hd : l[p]? with
  | none => rw [hd] at h; simp at h
  | some d => exact ⟨d, rfl⟩

end Go.Proofs.Ytfjnkidblalckaa

/- Contract: a checker and a record. No condition. -/
namespace Go.Proofs.Ytfjnkidblalckaa
open Go Go.RowKit

/-- Which type a field of a name has: the last one's; 0: there is none. -/
def tyF (fs : List Fld) : ByteArray → Int := fs.foldl (fun F f => fun s => if f.name = s then f.ty else F s) (fun _ => 0)
theorem tyF_snoc (fs : List Fld) (f : Fld) : tyF (fs ++ [f]) = fun s => if f.name = s then f.ty else tyF fs s := by simp [tyF]
def badF (fs : List Fld) (p : Prp) : Bool := !decide (tyF fs p.name = p.v.ty)
def lackF (n : Nod) (f : Fld) : Bool := f.must && !rhas n.props f.name
def recF (fs : List Fld) (n : Nod) : List Flt := (n.props.filter (badF fs)).map (fun p => ⟨2, n.id, p.name⟩) ++ (fs.filter (lackF n)).map (fun f => ⟨3, n.id, f.name⟩)
theorem take_snocF {D : Type} {l : List D} {k : Nat} {d : D} (h : l[k]? = some d) : l.take (k + 1) = l.take k ++ [d] := by rw [List.take_add_one, h]; rfl
theorem filt_snoc {D : Type} {l : List D} {k : Nat} {d : D} (p : D → Bool) (f : D → Flt) (h : l[k]? = some d) : ((l.take (k + 1)).filter p).map f = ((l.take k).filter p).map f ++ if p d then [f d] else [] := by
  rw [take_snocF h, List.filter_append, List.map_append]
  cases hp : p d <;> simp [hp]
theorem filt_le {D : Type} (l : List D) (k : Nat) (p : D → Bool) (f : D → Flt) : (((l.take k).filter p).map f).length ≤ k := by
  rw [List.length_map]
  exact Nat.le_trans (List.length_filter_le _ _) (by rw [List.length_take]; omega)
theorem MapI.of_block {w w' : World} {b n : Nat} {F : ByteArray → Int} (h : MapI w b n F) (hb : w'.heap[b]? = w.heap[b]?) : MapI w' b n F := by
  obtain ⟨D, ⟨es, clock, h1, h2⟩, h3⟩ := h
  exact ⟨D, ⟨es, clock, hb.trans h1, h2⟩, h3⟩
theorem MapI.keep {w w' : World} {b n : Nat} {F : ByteArray → Int} (h : MapI w b n F) (hk : ∀ m c, w.heap[b]? = some (.map m c) → w'.heap[b]? = some (.map m c)) : MapI w' b n F := by
  have h0 := h
  obtain ⟨D, ⟨es, clock, h1, h2⟩, h3⟩ := h
  exact h0.of_block ((hk _ _ h1).trans h1.symm)
theorem MapI.below {w w' : World} {b n : Nat} {F : ByteArray → Int} (h : MapI w b n F) (hb : Below w.heap.size w w') : MapI w' b n F := h.of_block (hb.block _ h.lt)
end Go.Proofs.Ytfjnkidblalckaa

/- Contract: a checker and a node by itself. No condition. -/
namespace Go.Proofs.Ytfjnkidblalckaa
open Go Go.RowKit


/-- The fields of a node's kind; none, where there is no such kind. -/
def kfl (s : Scm) (nm : ByteArray) : List Fld := if kFind s.kinds nm < 0 then [] else (fieldsOf s.kinds nm).getD []
def aloneF (s : Scm) (n : Nod) : List Flt := if kFind s.kinds n.kind < 0 then [⟨1, n.id, n.kind⟩] else recF (kfl s n.kind) n
/-- What a checker needs of its data. -/
structure CkOk (s : Scm) : Prop where
  l : s.kinds.length ≤ 12
  o : ∀ k ∈ s.kinds, k.ofs.length ≤ 64
  f : ∀ k ∈ s.kinds, k.fields.length ≤ 8
end Go.Proofs.Ytfjnkidblalckaa

/- Contract: kind.one: what is wrong with one kind, behind those that are right. -/
namespace Go.Proofs.Ytfjnkidblalckaa
open Go Go.RowKit

theorem Sl.take {D : Type} {L : Lay D} {w : World} {A : Option Addr} {n c : Nat} {l : List D} (h : Sl L w (.slice A n c) l) {k : Nat} (hk : k ≤ l.length) : Sl L w (.slice A k c) (l.take k) := by
  obtain ⟨A', c', hv, h1, h2, h3⟩ := h
  injection hv with hA hn hc
  subst hA; subst hc
  have hl : (l.take k).length = k := by simp; omega
  refine ⟨A, c, by rw [hl], by rw [hl]; omega, h2, fun i d hi => ?_⟩
  rw [List.getElem?_take] at hi
  split at hi
  · exact h3 i d hi
  · cases hi
theorem errV7 : errV 7 = .iface 58 (.int .i64 7) := by simp [errV]
theorem errV4 : errV 4 = .iface 58 (.int .i64 4) := by simp [errV]
theorem errV5 : errV 5 = .iface 58 (.int .i64 5) := by simp [errV]
theorem errV1 : errV 1 = .iface 58 (.int .i64 1) := by simp [errV]
theorem errV0 : errV 0 = .nilIface := by simp [errV]
theorem ofsE_step {l : List Knd} {r : List ByteArray} {j : Nat} {s : ByteArray} (hs : r[j]? = some s) {E : Int} (h : E = ofsE l (r.take j) (r.drop j)) :
    E = if kFind l s < 0 then 5 else if (r.take j).any (fun y => decide (s = y)) then 7 else ofsE l (r.take (j + 1)) (r.drop (j + 1)) := by
  rw [h, drop_cons hs, ofsE, take_step hs]

end Go.Proofs.Ytfjnkidblalckaa

/- Contracts: kind.Check, kind.ready, kind.Kin, kind.IsKin, kind.Is, kind.Fields, kind.Under. -/
namespace Go.Proofs.Ytfjnkidblalckaa
open Go Go.RowKit

theorem kindsE_step {l : List Knd} {j : Nat} {k : Knd} (hk : l[j]? = some k) {E : ByteArray × Int} (h : E = kindsE (l.take j) (l.drop j)) :
    E = if oneE (l.take j) k = 0 then kindsE (l.take (j + 1)) (l.drop (j + 1)) else (k.name, oneE (l.take j) k) := by
  rw [h, drop_cons hk, kindsE, take_step hk]
def CheckR (l : List Knd) (w : World) (e : Ending) (w' : World) : Prop := e = .returned (.tuple #[.string (checkE l).1, errV (checkE l).2]) ∧ Below w.heap.size w w'
theorem oneE_ofl {l : List Knd} {k : Knd} (h : oneE l k = 0) : k.ofs.length ≤ 4 ∧ k.fields.length ≤ 8 := ⟨(oneE_zero h).ofl, (oneE_zero h).fll⟩

end Go.Proofs.Ytfjnkidblalckaa

/- Contracts: kind.ready, kind.Kin, kind.IsKin, kind.Is, kind.Fields. -/
namespace Go.Proofs.Ytfjnkidblalckaa
open Go Go.RowKit

/-- A list and an error. -/
def RetL {D : Type} (L : Lay D) (l : List D) (err : Int) (w : World) (e : Ending) (w' : World) : Prop := ∃ v, e = .returned (.tuple #[v, errV err]) ∧ Sl L w' v l ∧ Below w.heap.size w w'

def strV (_ : World) (d : ByteArray) (u : Value) : Prop := u = .string d ∧ Sm d
def readyE (l : List Knd) (names : List ByteArray) : Int := if (checkE l).2 = 0 then (if names.any (fun s => decide (kFind l s < 0)) then 5 else 0) else (checkE l).2
theorem readyE_zero {l : List Knd} {names : List ByteArray} (h : readyE l names = 0) : Right l ∧ ∀ s ∈ names, 0 ≤ kFind l s := by
  unfold readyE at h
  split at h
  · rename_i h0
    split at h
    · omega
    · rename_i h1
      refine ⟨checkE_zero h0, fun s hs => ?_⟩
      rcases Int.lt_or_le (kFind l s) 0 with h2 | h2
      · exact absurd (List.any_eq_true.2 ⟨s, hs, decide_eq_true h2⟩) h1
      · exact h2
  · rename_i h0; exact absurd h h0
def isKinB (l : List Knd) (a b : ByteArray) : Bool := (kinL l a).any fun y => decide (b = y)
def kinR (l : List Knd) (name : ByteArray) : List ByteArray := if readyE l [name] = 0 then kinL l name else []
def fieldsR (l : List Knd) (name : ByteArray) : List Fld := if readyE l [name] = 0 then (fieldsOf l name).getD [] else []
def isR (l : List Knd) (a b : ByteArray) : Bool := if readyE l [a, b] = 0 then isKinB l a b else false
end Go.Proofs.Ytfjnkidblalckaa

/- Contract: whether an end of a tie is one. No condition. -/
namespace Go.Proofs.Ytfjnkidblalckaa
open Go Go.RowKit


def endB (s : Scm) (g : Grf) (id : Int) (asked : ByteArray) : Bool := match g.nodes[fpos g.nodes id]? with | some n => fhas g.nodes id && decide (0 ≤ kFind s.kinds n.kind) && isKinB s.kinds n.kind asked | none => false
end Go.Proofs.Ytfjnkidblalckaa

/- Plain: a map from the checker's keys (a text and a value) to bools that the call made, as a list of keys. No condition. -/
namespace Go.Proofs.Ytfjnkidblalckaa
open Go Go.RowKit

/-- A key: the field's name, and the value. -/
structure Key where
  f : ByteArray
  v : Val
  deriving DecidableEq
def Key.ag (k : Key) : Value := .agg #[.string k.f, .int .i64 k.v.ty, .int .i64 k.v.n, .string k.v.s]
theorem kval_same (d : Nat) (x y : Val) (w : World) : (Op.equalIn (d + 2) 36 (.agg #[.int .i64 x.ty, .int .i64 x.n, .string x.s]) (.agg #[.int .i64 y.ty, .int .i64 y.n, .string y.s])).run Try.prog w = .ok (decide (x = y)) w := by
  have hS : Try.prog.underlying 36 = some (.struct (Try.prog.fieldsOf 36)) := by kernel_rfl
  have hp : Try.prog.stoodInHeld 36 = false := by kernel_rfl
  have e1 := Try.underlying9
  have e2 := Try.underlying3
  rw [run_equalIn_agg w (d + 1) 36 _ _ hS hp]
  simp only [Program.fieldsOf, Try.underlying36]
  go_simp
  simp only [bytes_eq]
  cases x; cases y
  simp only [Val.mk.injEq]
  rename_i a b c a' b' c'
  by_cases h1 : a = a' <;> by_cases h2 : b = b' <;> by_cases h3 : c = c' <;> simp [h1, h2, h3]
theorem key_bits (x : Key) : Instr.sameBits 10000 x.ag x.ag = true := by
  have h : ∀ a : ByteArray, (a == a) = true := fun a => by cases a; exact beq_self_eq_true (α := Array UInt8) _
  unfold Key.ag
  simp [Instr.sameBits, h]
/-- What an entry says. -/
def kvs (es : List MapEntry) : List (Value × Value) := es.map fun e => (e.key, e.val)
def keyKV (S : List Key) : List (Value × Value) := S.map fun k => (k.ag, .bool true)
/-- Block b is a map: the keys S, each with true. -/
def MapK (w : World) (b : Nat) (S : List Key) : Prop := ∃ es clock, w.heap[b]? = some (.map es clock) ∧ kvs es.toList = keyKV S
theorem MapK.made (w : World) : MapK (w.alloc (.map #[] 0)) w.heap.size [] := ⟨#[], 0, heap_alloc_new _ _, rfl⟩
theorem MapK.keep {w w' : World} {b : Nat} {S : List Key} (h : MapK w b S) (hk : ∀ m c, w.heap[b]? = some (.map m c) → w'.heap[b]? = some (.map m c)) : MapK w' b S := by
  obtain ⟨es, c, h1, h2⟩ := h
  exact ⟨es, c, hk _ _ h1, h2⟩
theorem set_grown (w : World) (b : Nat) (o o' : Obj) (h : w.heap[b]? = some o) : w.grownBy { w with heap := w.heap.setIfInBounds b o' } (some b) ∧ True ∧ ({ w with heap := w.heap.setIfInBounds b o' } : World).heap[b]? = some o' := by
  have hb := (Array.getElem?_eq_some_iff.1 h).1
  refine ⟨⟨rfl, rfl, rfl, by simp, fun k hk hne => ?_⟩, trivial, ?_⟩
  · simp only [Array.getElem?_setIfInBounds]
    rw [if_neg (fun e => hne (by rw [e]))]
  · simp [hb]
end Go.Proofs.Ytfjnkidblalckaa

/- Contracts: schema.find, schema.Find, schema.bond, schema.Check, schema.Right. -/
namespace Go.Proofs.Ytfjnkidblalckaa
open Go Go.RowKit



def bndAg (d : Bnd) : Value := .agg #[.string d.name, .string d.src, .string d.dst, .int .i64 d.mn, .int .i64 d.mx]
def bndV (_ : World) (d : Bnd) (u : Value) : Prop := u = .agg #[.string d.name, .string d.src, .string d.dst, .int .i64 d.mn, .int .i64 d.mx]
/-- Where a bond of a name is. -/
def bFind (l : List Bnd) (name : ByteArray) : Int := idxI (fun b => decide (b.name = name)) l
def rngB (b : Bnd) : Prop := b.mn < 0 ∨ 20 < b.mn ∨ (b.mx ≠ -1 ∧ (b.mx < b.mn ∨ 20 < b.mx))
instance (b : Bnd) : Decidable (rngB b) := by unfold rngB; infer_instance
/-- What is wrong with a bond, behind those that are right. -/
def bndE (ks : List Knd) (p : List Bnd) (b : Bnd) : Int :=
  if nameE b.name = 0 then (if 0 ≤ bFind p b.name then 7 else if kFind ks b.src < 0 ∨ kFind ks b.dst < 0 then 5 else if rngB b then 1 else 0) else nameE b.name
def bndsE (ks : List Knd) : List Bnd → List Bnd → ByteArray × Int
  | _, [] => (.empty, 0)
  | p, b :: r => if bndE ks p b = 0 then bndsE ks (p ++ [b]) r else (b.name, bndE ks p b)
/-- The fault of a schema, and with whom. -/
def scmE (s : Scm) : ByteArray × Int := if (checkE s.kinds).2 = 0 then (if 12 < s.bonds.length then (.empty, 4) else bndsE s.kinds [] s.bonds) else checkE s.kinds
theorem cell_box5 (w : World) (a b c d e : Value) (t : TypeId) : (w.alloc (.cells #[a, b, c, d, e] t)).cell? ⟨w.heap.size, 0, none⟩ = some a ∧ (w.alloc (.cells #[a, b, c, d, e] t)).cell? ⟨w.heap.size, 1, none⟩ = some b ∧
    (w.alloc (.cells #[a, b, c, d, e] t)).cell? ⟨w.heap.size, 2, none⟩ = some c ∧ (w.alloc (.cells #[a, b, c, d, e] t)).cell? ⟨w.heap.size, 3, none⟩ = some d ∧ (w.alloc (.cells #[a, b, c, d, e] t)).cell? ⟨w.heap.size, 4, none⟩ = some e :=
  ⟨by rw [World.cell?_alloc_at _ _ _ _ rfl]; rfl, by rw [World.cell?_alloc_at _ _ _ _ rfl]; rfl, by rw [World.cell?_alloc_at _ _ _ _ rfl]; rfl, by rw [World.cell?_alloc_at _ _ _ _ rfl]; rfl, by rw [World.cell?_alloc_at _ _ _ _ rfl]; rfl⟩
end Go.Proofs.Ytfjnkidblalckaa

/- Contract: graph.Node. -/
namespace Go.Proofs.Ytfjnkidblalckaa
open Go Go.RowKit

def zeroN : Nod := ⟨0, .empty, []⟩
def nodeE (g : Grf) (id : Int) : Int := if grfE g = 0 then (if fhas g.nodes id then 0 else 5) else grfE g
def nodeR (g : Grf) (id : Int) : Nod := if nodeE g id = 0 then (g.nodes[fpos g.nodes id]?).getD zeroN else zeroN
theorem nod_rec2 {n : Nod} (h : nodE n = 0) : recE n.props = 0 := by
  unfold nodE at h
  split at h
  · omega
  · split at h
    · exact h
    · rename_i h2; exact absurd h h2
/-- A node and an error. -/
def RetN (n : Nod) (err : Int) (w : World) (e : Ending) (w' : World) : Prop := ∃ u, e = .returned (.tuple #[.agg #[.int .i64 n.id, .string n.kind, u], errV err]) ∧ Sl prpL w' u n.props ∧ Below w.heap.size w w'
end Go.Proofs.Ytfjnkidblalckaa

/- Plain: ends of ties of a graph; as many go out as come in, but for those that lead nowhere. No condition. -/
namespace Go.Proofs.Ytfjnkidblalckaa

def endT (back : Bool) (bond : ByteArray) (id : Int) (t : Tie) : Bool := decide (t.bond = bond) && (if back then t.dst == id else t.src == id)
def endX (back : Bool) (t : Tie) : Int := if back then t.src else t.dst
/-- Ends of ties of a bond at a node, in the order of the ties. -/
def endsL (ts : List Tie) (id : Int) (bond : ByteArray) (back : Bool) : List Int := (ts.filter (endT back bond id)).map (endX back)
theorem endsL_mem {ts : List Tie} {id : Int} {bond : ByteArray} {back : Bool} {x : Int} (h : x ∈ endsL ts id bond back) : id ∈ endsL ts x bond (!back) := by
  unfold endsL at h ⊢
  obtain ⟨t, ht, rfl⟩ := List.mem_map.1 h
  obtain ⟨h1, h2⟩ := List.mem_filter.1 ht
  unfold endT at h2
  simp only [Bool.and_eq_true, decide_eq_true_eq] at h2
  obtain ⟨h3, h4⟩ := h2
  refine List.mem_map.2 ⟨t, List.mem_filter.2 ⟨h1, ?_⟩, ?_⟩
  · unfold endT endX
    cases back <;> simp [h3]
  · unfold endX
    cases back <;> simpa using h4
def idsN (l : List Nod) : List Int := l.map (·.id)
theorem ids_nodup {l : List Nod} (hc : chain nodLt l = true) {k : Nat} {n : Nod} (hn : l[k]? = some n) : n.id ∉ (idsN l).take k := by
  intro h
  obtain ⟨j, hj⟩ := List.mem_iff_getElem?.1 h
  rw [List.getElem?_take] at hj
  split at hj
  · unfold idsN at hj
    rw [List.getElem?_map] at hj
    cases hm : l[j]? with
    | none => rw [hm] at hj; cases hj
    | some m =>
      rw [hm] at hj
      have : m.id = n.id := by simpa using hj
      have := chain_lt2 hc (by assumption : j < k) hm hn
      omega
  · cases hj
theorem ids_has {l : List Nod} (hc : chain nodLt l = true) (id : Int) : fhas l id = decide (id ∈ idsN l) := by
  rw [fhas_any hc, Bool.eq_iff_iff, List.any_eq_true, decide_eq_true_eq]
  unfold idsN
  constructor
  · rintro ⟨n, h1, h2⟩
    exact List.mem_map.2 ⟨n, h1, by simpa using h2⟩
  · intro h
    obtain ⟨n, h1, h2⟩ := List.mem_map.1 h
    exact ⟨n, h1, by simpa using h2⟩
/-- Ties of a bond of which the one end is among some, the other as is asked. -/
def cntT (ts : List Tie) (bond : ByteArray) (back : Bool) (I : List Int) (f : Int → Bool) : Nat :=
  ts.countP fun t => decide (t.bond = bond) && (if back then I.contains t.dst else I.contains t.src) && f (endX back t)
theorem cntT_nil (ts : List Tie) (bond : ByteArray) (back : Bool) (f : Int → Bool) : cntT ts bond back [] f = 0 := by
  unfold cntT
  rw [List.countP_eq_zero]
  intro t _
  cases back <;> simp
theorem countP_or {α : Type} (p q r : α → Bool) (h1 : ∀ a, r a = (p a || q a)) (h2 : ∀ a, ¬ (p a = true ∧ q a = true)) : ∀ l : List α, l.countP r = l.countP p + l.countP q
  | [] => rfl
  | a :: l => by
    rw [List.countP_cons, List.countP_cons, List.countP_cons, countP_or p q r h1 h2 l, h1 a]
    have := h2 a
    cases hp : p a <;> cases hq : q a <;> simp_all <;> omega
theorem cntT_step (ts : List Tie) (bond : ByteArray) (back : Bool) (I : List Int) (id : Int) (f : Int → Bool) (hI : id ∉ I) :
    cntT ts bond back (I ++ [id]) f = cntT ts bond back I f + (endsL ts id bond back).countP f := by
  unfold cntT endsL
  rw [List.countP_map, List.countP_filter]
  refine countP_or _ _ _ (fun t => ?_) (fun t => ?_) ts
  · unfold endT
    cases back <;> simp only [List.contains_append, List.contains_cons, List.contains_nil, Bool.or_false, Function.comp_apply, if_true, if_false, Bool.false_eq_true] <;>
      cases decide (t.bond = bond) <;> simp [Bool.and_or_distrib_right, Bool.and_comm]
  · unfold endT
    cases back <;> (simp only [Function.comp_apply, if_true, if_false, Bool.false_eq_true, Bool.and_eq_true, decide_eq_true_eq, List.contains_iff_mem, beq_iff_eq]; rintro ⟨⟨⟨_, h1⟩, _⟩, _, _, h2⟩; rw [h2] at h1; exact hI h1)
theorem cntT_split (ts : List Tie) (bond : ByteArray) (back : Bool) (I : List Int) (f : Int → Bool) : cntT ts bond back I (fun _ => true) = cntT ts bond back I f + cntT ts bond back I (fun x => !f x) := by
  unfold cntT
  refine countP_or _ _ _ (fun t => ?_) (fun t => ?_) ts
  · show (decide (t.bond = bond) && (if back then I.contains t.dst else I.contains t.src) && true) = ((decide (t.bond = bond) && (if back then I.contains t.dst else I.contains t.src) && f (endX back t)) || (decide (t.bond = bond) && (if back then I.contains t.dst else I.contains t.src) && !f (endX back t)))
    generalize (decide (t.bond = bond) && (if back then I.contains t.dst else I.contains t.src)) = c
    generalize f (endX back t) = b
    cases c <;> cases b <;> rfl
  · show ¬ ((decide (t.bond = bond) && (if back then I.contains t.dst else I.contains t.src) && f (endX back t)) = true ∧ (decide (t.bond = bond) && (if back then I.contains t.dst else I.contains t.src) && !f (endX back t)) = true)
    generalize (decide (t.bond = bond) && (if back then I.contains t.dst else I.contains t.src)) = c
    generalize f (endX back t) = b
    cases c <;> cases b <;> simp
theorem cntT_turn (ts : List Tie) (bond : ByteArray) (I : List Int) : cntT ts bond false I (fun x => I.contains x) = cntT ts bond true I (fun x => I.contains x) := by
  unfold cntT
  congr 1
  funext t
  unfold endX
  cases decide (t.bond = bond) <;> simp [Bool.and_comm]
/-- As many go out as come in, but for those that lead nowhere. -/
theorem ends_law (ts : List Tie) (bond : ByteArray) (I : List Int) :
    (cntT ts bond false I (fun _ => true) : Int) - cntT ts bond true I (fun _ => true) = cntT ts bond false I (fun x => !I.contains x) - cntT ts bond true I (fun x => !I.contains x) := by
  have h1 := cntT_split ts bond false I (fun x => I.contains x)
  have h2 := cntT_split ts bond true I (fun x => I.contains x)
  have h3 := cntT_turn ts bond I
  omega
theorem take_snoc_ids {l : List Nod} {k : Nat} {n : Nod} (hn : l[k]? = some n) : (idsN l).take (k + 1) = (idsN l).take k ++ [n.id] := by
  rw [List.take_add_one]
  have : (idsN l)[k]? = some n.id := by unfold idsN; rw [List.getElem?_map, hn]; rfl
  rw [this]; rfl
theorem cntT_le (ts : List Tie) (bond : ByteArray) (back : Bool) (I : List Int) (f : Int → Bool) : cntT ts bond back I f ≤ ts.length := List.countP_le_length
end Go.Proofs.Ytfjnkidblalckaa
