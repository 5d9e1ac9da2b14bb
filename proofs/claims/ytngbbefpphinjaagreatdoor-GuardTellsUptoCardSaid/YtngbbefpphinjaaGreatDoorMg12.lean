/- Parts: KinP, Eqs, KinH, Chk1. -/
import Derived.Test.YtngbbefpphinjaaGreatDoorMg11
import Derived.Laws.StructEq
import Derived.Test.YtngbbefpphinjaaGreatDoorMg01
import Derived.Test.YtngbbefpphinjaaGreatDoorMg10
import Derived.Test.YtngbbefpphinjaaGreatDoorMg06
import Derived.Deep.DeepCutAuto
/- Plain: kinds that are right: kin of kin is kin; a kind has all fields of its kin. -/
namespace Go.Proofs.YtngbbefpphinjaaGreatDoor
/-! ### What is wrong with kinds -/
def ofsE (l : List Knd) : List ByteArray -> List ByteArray -> Int
 | _, [] => 0
 | p, s :: r => if kFind l s < 0 then 5 else if p.any (fun y => decide (s = y)) then 7 else ofsE l (p ++ [s]) r
def sumE : Option (List Fld) -> Int
 | none => 7
 | some fs => if 8 < fs.length then 4 else 0
def oneE (l : List Knd) (k : Knd) : Int :=
 if nameE k.name = 0 then
   if 0 <= kFind l k.name then 7
   else if 4 < k.ofs.length then 4
   else if 8 < k.fields.length then 4
   else if ofsE l [] k.ofs = 0 then
     if fldsE none k.fields = 0 then sumE (fieldsOf (l ++ [k]) k.name)
     else fldsE none k.fields
   else ofsE l [] k.ofs
 else nameE k.name
def kindsE : List Knd -> List Knd -> ByteArray × Int
 | _, [] => (.empty, 0)
 | p, k :: r => if oneE p k = 0 then kindsE (p ++ [k]) r else (k.name, oneE p k)
def checkE (l : List Knd) : ByteArray × Int := if 12 < l.length then (.empty, 4) else kindsE [] l
/-! ### Where it is -/
theorem idxI_nonneg {D : Type} {p : D -> Bool} {l : List D} (h : 0 <= idxI p l) : ∃ (k : Nat) (d : D), idxI p l = k /\ l[k]? = some d /\ p d = true /\ ∀ j x, j < k -> l[j]? = some x -> p x = false := by
 induction l with
 | nil => rw [show idxI p ([] : List D) = -1 from idxI_miss (fun j x hj => absurd hj (Nat.not_lt_zero _))] at h; omega
 | cons a l ih =>
  by_cases ha : p a = true
  ·refine ⟨0, a, ?_, rfl, ha, fun j x hj => absurd hj (Nat.not_lt_zero _)⟩
   have := idxI_hit (p := p) (l := a :: l) (k := 0) (d := a) (fun j x hj => absurd hj (Nat.not_lt_zero _)) rfl ha
   simpa using this
  have hf : p a = false := by simpa using ha
  by_cases hall : ∃ (k : Nat) (d : D), l[k]? = some d /\ p d = true
  ·have : l.any p = true := by obtain ⟨k, d, h1, h2⟩ := hall; exact List.any_eq_true.2 ⟨d, List.mem_of_getElem? h1, h2⟩
   rw [<- idxI_any] at this
   obtain ⟨k, d, h1, h2, h3, h4⟩ := ih (by simpa using this)
   have hm : ∀ j x, j < k + 1 -> (a :: l)[j]? = some x -> p x = false := by
    intro j x hj hx
    cases j with
    | zero => simp at hx; subst hx; exact hf
    | succ j => exact h4 j x (by omega) (by simpa using hx)
   exact ⟨k + 1, d, idxI_hit hm (by simpa using h2) h3, by simpa using h2, h3, hm⟩
  exfalso
  have hm : ∀ j x, j < (a :: l).length -> (a :: l)[j]? = some x -> p x = false := by
   intro j x _ hx
   cases j with
   | zero => simp at hx; subst hx; exact hf
   | succ j =>
    cases hp : p x with
    | false => rfl
    | true => exact absurd ⟨j, x, by simpa using hx, hp⟩ hall
  have := idxI_miss hm
  omega
theorem kFind_neg {l : List Knd} {s : ByteArray} (h : kFind l s < 0) : ∀ k ∈ l, k.name ≠ s := by
 intro k hk e
 have : l.any (fun k => decide (k.name = s)) = true := List.any_eq_true.2 ⟨k, hk, by simpa using e⟩
 rw [<- idxI_any] at this
 unfold kFind at h
 simp at this
 omega
theorem kFind_pos {l : List Knd} {s : ByteArray} (h : 0 <= kFind l s) : ∃ (i : Nat) (k : Knd), kFind l s = i /\ l[i]? = some k /\ k.name = s /\ ∀ j x, j < i -> l[j]? = some x -> x.name ≠ s := by
 obtain ⟨k, d, h1, h2, h3, h4⟩ := idxI_nonneg h
 exact ⟨k, d, h1, h2, by simpa using h3, fun j x hj hx => by simpa using h4 j x hj hx⟩
theorem kFind_mem {l : List Knd} {k : Knd} (h : k ∈ l) : 0 <= kFind l k.name := by
 rcases Int.lt_or_le (kFind l k.name) 0 with h0 | h0
 ·exact absurd rfl (kFind_neg h0 k h)
 exact h0
theorem find_of_kFind {l : List Knd} {s : ByteArray} {i : Nat} {k : Knd} (h1 : kFind l s = i) (h2 : l[i]? = some k) : l.find? (fun k => decide (k.name = s)) = some k := by
 obtain ⟨i', k', e1, e2, e3, e4⟩ := kFind_pos (l := l) (s := s) (by rw [h1]; omega)
 have : i' = i := by omega
 subst this
 rw [h2] at e2
 injection e2 with e2
 subst e2
 rw [List.find?_eq_some_iff_getElem]
 obtain ⟨hl, hk⟩ := List.getElem?_eq_some_iff.1 h2
 exact ⟨by simpa using e3, i', hl, hk, fun j hj => by simpa using e4 j _ hj (List.getElem?_eq_getElem _)⟩
/-! ### Kinds that are right -/
def Wf (l : List Knd) : Prop := ∀ (i : Nat) k, l[i]? = some k -> (∀ (j : Nat) x, j < i -> l[j]? = some x -> x.name ≠ k.name) /\ (∀ s ∈ k.ofs, ∃ (j : Nat) (x : Knd), j < i /\ l[j]? = some x /\ x.name = s)
theorem ofsE_zero {l : List Knd} : ∀ {r p : List ByteArray}, ofsE l p r = 0 -> ∀ s ∈ r, 0 <= kFind l s
 | [], _, _, s, hs => by simp at hs
 | t :: r, p, h, s, hs => by
  rw [ofsE] at h
  split at h
  ·omega
  split at h
  ·omega
  rename_i h1 _
  rcases List.mem_cons.1 hs with rfl | hs
  ·omega
  exact ofsE_zero h s hs
structure OneOk (l : List Knd) (k : Knd) : Prop where
 nm : nameE k.name = 0
 new : kFind l k.name < 0
 ofl : k.ofs.length <= 4
 fll : k.fields.length <= 8
 ofs : ofsE l [] k.ofs = 0
 fls : fldsE none k.fields = 0
 all : ∃ fs, fieldsOf (l ++ [k]) k.name = some fs /\ fs.length <= 8
theorem oneE_zero {l : List Knd} {k : Knd} (h : oneE l k = 0) : OneOk l k := by
 unfold oneE at h
 by_cases h1 : nameE k.name = 0
 ·rw [if_pos h1] at h
  by_cases h2 : 0 <= kFind l k.name
  ·rw [if_pos h2] at h; omega
  rw [if_neg h2] at h
  by_cases h3 : 4 < k.ofs.length
  ·rw [if_pos h3] at h; omega
  rw [if_neg h3] at h
  by_cases h4 : 8 < k.fields.length
  ·rw [if_pos h4] at h; omega
  rw [if_neg h4] at h
  by_cases h5 : ofsE l [] k.ofs = 0
  ·rw [if_pos h5] at h
   by_cases h6 : fldsE none k.fields = 0
   ·rw [if_pos h6] at h
    cases h7 : fieldsOf (l ++ [k]) k.name with
    | none => rw [h7] at h; simp [sumE] at h
    | some fs =>
     rw [h7] at h
     simp only [sumE] at h
     split at h
     ·omega
     exact ⟨h1, by omega, by omega, by omega, h5, h6, fs, h7, by omega⟩
   rw [if_neg h6] at h; exact absurd h h6
  rw [if_neg h5] at h; exact absurd h h5
 rw [if_neg h1] at h; exact absurd h h1
theorem kindsE_zero : ∀ {r p : List Knd}, (kindsE p r).2 = 0 -> ∀ (i : Nat) k, r[i]? = some k -> OneOk (p ++ r.take i) k
 | [], _, _, i, k, h => by simp at h
 | x :: r, p, h, i, k, hk => by
  rw [kindsE] at h
  split at h
  ·rename_i h0
   cases i with
   | zero => simp at hk; subst hk; simpa using oneE_zero h0
   | succ i =>
    have := kindsE_zero h i k (by simpa using hk)
    simpa using this
  rename_i h0; exact absurd h h0
structure Right (l : List Knd) : Prop where
 len : l.length <= 12
 one : ∀ (i : Nat) k, l[i]? = some k -> OneOk (l.take i) k
theorem checkE_zero {l : List Knd} (h : (checkE l).2 = 0) : Right l := by
 unfold checkE at h
 split at h
 ·simp at h
 exact ⟨by omega, fun i k hk => by simpa using kindsE_zero h i k hk⟩
theorem take_get {D : Type} {l : List D} {i j : Nat} {x : D} (h : j < i) (hx : l[j]? = some x) : (l.take i)[j]? = some x := by rw [List.getElem?_take, if_pos h, hx]
theorem Right.wf {l : List Knd} (h : Right l) : Wf l := by
 intro i k hk
 have ho := h.one i k hk
 refine ⟨fun j x hj hx => kFind_neg ho.new x (List.mem_of_getElem? (take_get hj hx)), fun s hs => ?_⟩
 obtain ⟨j, x, h1, h2, h3, _⟩ := kFind_pos (ofsE_zero ho.ofs s hs)
 rw [List.getElem?_take] at h2
 split at h2
 ·exact ⟨j, x, by assumption, h2, h3⟩
 cases h2
/-! ### Kin -/
def kinFrom (l : List Knd) (S : ByteArray -> Bool) : ByteArray -> Bool := l.foldr (fun k S => kinStep S k) S
theorem kinSet_eq (l : List Knd) (name : ByteArray) : kinSet l name = kinFrom l (fun s => decide (name = s)) := rfl
theorem kinFrom_append (p q : List Knd) (S : ByteArray -> Bool) : kinFrom (p ++ q) S = kinFrom p (kinFrom q S) := by unfold kinFrom; rw [List.foldr_append]
theorem kinStep_mono {S : ByteArray -> Bool} {k : Knd} {s : ByteArray} (h : S s = true) : kinStep S k s = true := by unfold kinStep; split <;> simp [h]
theorem kinFrom_mono : ∀ {l : List Knd} {S : ByteArray -> Bool} {s : ByteArray}, S s = true -> kinFrom l S s = true
 | [], _, _, h => h
 | _ :: l, S, _, h => kinStep_mono (S := kinFrom l S) (kinFrom_mono (l := l) h)
theorem kinStep_inv {S : ByteArray -> Bool} {k : Knd} {s : ByteArray} (h : kinStep S k s = true) : S s = true \/ s ∈ k.ofs := by
 unfold kinStep at h
 split at h
 ·simp only [Bool.or_eq_true, List.any_eq_true, decide_eq_true_eq] at h
  rcases h with h | ⟨o, ho, rfl⟩
  ·exact .inl h
  exact .inr ho
 exact .inl h
theorem kinFrom_inv : ∀ {l : List Knd} {S : ByteArray -> Bool} {s : ByteArray}, kinFrom l S s = true -> S s = true \/ ∃ k ∈ l, s ∈ k.ofs
 | [], _, _, h => .inl h
 | k :: l, S, s, h => by
  rcases kinStep_inv (S := kinFrom l S) h with h | h
  ·rcases kinFrom_inv (l := l) h with h | ⟨x, hx, h⟩
   ·exact .inl h
   exact .inr ⟨x, List.mem_cons_of_mem _ hx, h⟩
  exact .inr ⟨k, List.mem_cons_self .., h⟩
def Closed (l : List Knd) (T : ByteArray -> Bool) : Prop := ∀ k ∈ l, T k.name = true -> ∀ o ∈ k.ofs, T o = true
theorem kinFrom_least : ∀ {l : List Knd} {S T : ByteArray -> Bool}, Closed l T -> (∀ s, S s = true -> T s = true) -> ∀ s, kinFrom l S s = true -> T s = true
 | [], _, _, _, h, s, hs => h s hs
 | k :: l, S, T, hc, h, s, hs => by
  have ih := kinFrom_least (l := l) (S := S) (T := T) (fun x hx => hc x (List.mem_cons_of_mem _ hx)) h
  have hs : kinStep (kinFrom l S) k s = true := hs
  unfold kinStep at hs
  split at hs
  ·rename_i hk
   simp only [Bool.or_eq_true, List.any_eq_true, decide_eq_true_eq] at hs
   rcases hs with hs | ⟨o, ho, rfl⟩
   ·exact ih s hs
   exact hc k (List.mem_cons_self ..) (ih _ hk) o ho
  exact ih s hs
theorem kinFrom_closed {l : List Knd} (hw : Wf l) : ∀ (n : Nat) (S : ByteArray -> Bool), Closed (l.take n) (kinFrom (l.take n) S)
 | 0, S => by intro k hk; simp at hk
 | n + 1, S => by
  by_cases hn : n < l.length
  ·have hx : l[n]? = some l[n] := List.getElem?_eq_getElem hn
   have ht : l.take (n + 1) = l.take n ++ [l[n]] := by rw [List.take_add_one, hx]; rfl
   generalize l[n] = x at hx ht
   have hS : kinFrom [x] S = kinStep S x := rfl
   rw [ht, kinFrom_append, hS]
   obtain ⟨hw1, hw2⟩ := hw n x hx
   intro k hk hkn o ho
   rcases List.mem_append.1 hk with hk | hk
   ·exact kinFrom_closed hw n _ k hk hkn o ho
   simp at hk
   subst hk
   have h1 : kinStep S k k.name = true := by
    rcases kinFrom_inv hkn with h | ⟨y, hy, h⟩
    ·exact h
    exfalso
    obtain ⟨i, hi⟩ := List.mem_iff_getElem?.1 hy
    rw [List.getElem?_take] at hi
    split at hi
    ·obtain ⟨j, z, e1, e2, e3⟩ := (hw i y hi).2 _ h
     exact hw1 j z (by omega) e2 e3
    cases hi
   have h2 : S k.name = true := by
    unfold kinStep at h1
    split at h1
    ·assumption
    exact h1
   refine kinFrom_mono ?_
   unfold kinStep
   rw [if_pos h2]
   simp only [Bool.or_eq_true, List.any_eq_true, decide_eq_true_eq]
   exact .inr ⟨o, ho, rfl⟩
  have ht : l.take (n + 1) = l.take n := by rw [List.take_of_length_le (by omega), List.take_of_length_le (by omega)]
  rw [ht]
  exact kinFrom_closed hw n S
theorem kinSet_closed {l : List Knd} (hw : Wf l) (name : ByteArray) : Closed l (kinSet l name) := by
 have := kinFrom_closed hw l.length (fun s => decide (name = s))
 rw [List.take_length] at this
 exact this
theorem kinSet_self (l : List Knd) (name : ByteArray) : kinSet l name name = true := kinFrom_mono (by simp)
theorem mem_kinL {l : List Knd} {a s : ByteArray} : s ∈ kinL l a ↔ (∃ k ∈ l, k.name = s) /\ kinSet l a s = true := by
 unfold kinL
 simp only [List.mem_map, List.mem_filter]
 constructor
 ·rintro ⟨k, ⟨h1, h2⟩, rfl⟩; exact ⟨⟨k, h1, rfl⟩, h2⟩
 rintro ⟨⟨k, h1, rfl⟩, h2⟩; exact ⟨k, ⟨h1, h2⟩, rfl⟩
/-! ### Fields -/
theorem allF_mem : ∀ {fs acc out : List Fld}, fs.foldlM putF acc = some out -> ∀ x, x ∈ out ↔ x ∈ acc \/ x ∈ fs
 | [], acc, out, h, x => by
  simp only [List.foldlM_nil] at h
  injection h with h; subst h; simp
 | f :: fs, acc, out, h, x => by
  rw [List.foldlM_cons] at h
  cases hp : putF acc f with
  | none => rw [hp] at h; cases h
  | some acc' =>
   rw [hp] at h
   have := allF_mem (show fs.foldlM putF acc' = some out from h) x
   rw [this, mem_putF hp, List.mem_cons]
   constructor
   ·rintro ((h | h) | h) <;> simp [h]
   rintro (h | h | h) <;> simp [h]
def fldsFor (l : List Knd) (s : ByteArray) : List Fld := match l.find? (fun k => decide (k.name = s)) with | some k => k.fields | none => []
theorem fieldsOf_eq (l : List Knd) (name : ByteArray) : fieldsOf l name = allF ((kinL l name).flatMap (fldsFor l)) := rfl
theorem fieldsOf_mem {l : List Knd} {a : ByteArray} {fs : List Fld} (h : fieldsOf l a = some fs) (x : Fld) : x ∈ fs ↔ ∃ s ∈ kinL l a, x ∈ fldsFor l s := by
 rw [fieldsOf_eq] at h
 rw [allF_mem h x]
 simp
theorem kinSet_take {l : List Knd} (hw : Wf l) {i : Nat} {k : Knd} (hk : l[i]? = some k) : kinSet l k.name = kinSet (l.take (i + 1)) k.name := by
 rw [kinSet_eq, kinSet_eq]
 conv => lhs; rw [<- List.take_append_drop (i + 1) l]
 rw [kinFrom_append]
 congr 1
 have : ∀ q : List Knd, (∀ x ∈ q, x.name ≠ k.name) -> kinFrom q (fun s => decide (k.name = s)) = fun s => decide (k.name = s) := by
  intro q
  induction q with
  | nil => intro _; rfl
  | cons y q ih =>
   intro hq
   have h1 := ih (fun x hx => hq x (List.mem_cons_of_mem _ hx))
   show kinStep (kinFrom q _) y = _
   rw [h1]
   unfold kinStep
   rw [if_neg]
   have := hq y (List.mem_cons_self ..)
   simpa using fun e => this e.symm
 refine this _ fun x hx => ?_
 obtain ⟨j, hj⟩ := List.mem_iff_getElem?.1 hx
 rw [List.getElem?_drop] at hj
 intro e
 exact (hw _ x hj).1 i k (by omega) hk e.symm
theorem kinL_take {l : List Knd} (hw : Wf l) {i : Nat} {k : Knd} (hk : l[i]? = some k) : kinL l k.name = kinL (l.take (i + 1)) k.name := by
 unfold kinL
 rw [<- kinSet_take hw hk]
 have hsp : l.filter (fun x => kinSet l k.name x.name) = (l.take (i + 1)).filter (fun x => kinSet l k.name x.name) ++ (l.drop (i + 1)).filter (fun x => kinSet l k.name x.name) := by
  rw [<- List.filter_append, List.take_append_drop]
 rw [hsp]
 have : (l.drop (i + 1)).filter (fun x => kinSet l k.name x.name) = [] := by
  rw [List.filter_eq_nil_iff]
  intro x hx hs
  obtain ⟨j, hj⟩ := List.mem_iff_getElem?.1 hx
  rw [List.getElem?_drop] at hj
  rw [kinSet_take hw hk, kinSet_eq] at hs
  rcases kinFrom_inv hs with h | ⟨y, hy, h⟩
  ·simp at h
   exact (hw _ x hj).1 i k (by omega) hk h
  obtain ⟨m, hm⟩ := List.mem_iff_getElem?.1 hy
  rw [List.getElem?_take] at hm
  split at hm
  ·obtain ⟨n, z, e1, e2, e3⟩ := (hw m y hm).2 _ h
   exact (hw _ x hj).1 n z (by omega) e2 e3
  cases hm
 rw [this, List.append_nil]
theorem fldsFor_take {l : List Knd} {n : Nat} {s : ByteArray} (h : ∃ k ∈ l.take n, k.name = s) : fldsFor l s = fldsFor (l.take n) s := by
 unfold fldsFor
 have : l.find? (fun k => decide (k.name = s)) = (l.take n).find? (fun k => decide (k.name = s)) := by
  conv => lhs; rw [<- List.take_append_drop n l]
  rw [List.find?_append]
  have hs : ((l.take n).find? (fun k => decide (k.name = s))).isSome := by
   rw [List.find?_isSome]
   obtain ⟨k, h1, h2⟩ := h
   exact ⟨k, h1, by simpa using h2⟩
  obtain ⟨y, hy⟩ := Option.isSome_iff_exists.1 hs
  rw [hy]; rfl
 rw [this]
theorem flatMap_congr {A B : Type} {l : List A} {f g : A -> List B} (h : ∀ x ∈ l, f x = g x) : l.flatMap f = l.flatMap g := by
 induction l with
 | nil => rfl
 | cons a l ih =>
  rw [List.flatMap_cons, List.flatMap_cons, h a (List.mem_cons_self ..), ih fun x hx => h x (List.mem_cons_of_mem _ hx)]
theorem fieldsOf_take {l : List Knd} (hw : Wf l) {i : Nat} {k : Knd} (hk : l[i]? = some k) : fieldsOf l k.name = fieldsOf (l.take (i + 1)) k.name := by
 rw [fieldsOf_eq, fieldsOf_eq, kinL_take hw hk]
 congr 1
 exact flatMap_congr fun s hs => fldsFor_take (mem_kinL.1 hs).1
theorem Right.fields {l : List Knd} (h : Right l) {k : Knd} (hk : k ∈ l) : ∃ fs, fieldsOf l k.name = some fs /\ fs.length <= 8 := by
 obtain ⟨i, hi⟩ := List.mem_iff_getElem?.1 hk
 obtain ⟨fs, h1, h2⟩ := (h.one i k hi).all
 refine ⟨fs, ?_, h2⟩
 rw [fieldsOf_take h.wf hi, List.take_add_one, hi]
 exact h1
open Go Go.RowKit
theorem bytes_eq (a b : ByteArray) : (a.toList = b.toList) = (a = b) := by
 have := bytes_beq a b
 apply propext
 constructor
 ·intro h; rw [h] at this; simpa using this.symm
 intro h; rw [h]
theorem fld_guard (op : BinOp) (a b : Operand) (xs ys : Array Value) (w : World) : (eqGuard op 84 a b (.agg xs) (.agg ys)).run Tryz.prog w = .ok () w := run_eqGuard_agg w op 84 a b xs ys (by kernel_rfl)
theorem fld_same (d : Nat) (x y : Fld) (w : World) : (Op.equalIn (d + 2) 84 (.agg #[.string x.name, .int .i64 x.ty, .bool x.must, .bool x.key]) (.agg #[.string y.name, .int .i64 y.ty, .bool y.must, .bool y.key])).run Tryz.prog w = .ok (decide (x = y)) w := by
 have hS : Tryz.prog.underlying 84 = some (.struct (Tryz.prog.fieldsOf 84)) := by kernel_rfl
 have hp : Tryz.prog.stoodInHeld 84 = false := by kernel_rfl
 have e1 := Tryz.underlying9
 have e2 := Tryz.underlying3
 have e3 := Tryz.underlying4
 rw [run_equalIn_agg w (d + 1) 84 _ _ hS hp]
 simp only [Program.fieldsOf, Tryz.underlying84]
 go_simp
 simp only [bytes_eq]
 cases x; cases y
 simp only [Fld.mk.injEq]
 rename_i a b c d a' b' c' d'
 by_cases h1 : a = a' <;> by_cases h2 : b = b' <;> by_cases h3 : c = c' <;> by_cases h4 : d = d' <;> simp [h1, h2, h3, h4]
theorem fld_neq (x y : Fld) (w : World) : (binOp .neq 84 (.agg #[.string x.name, .int .i64 x.ty, .bool x.must, .bool x.key]) (.agg #[.string y.name, .int .i64 y.ty, .bool y.must, .bool y.key])).run Tryz.prog w = .ok (.bool (!decide (x = y))) w := by
 rw [run_neq_struct, show (10000 : Nat) = 9998 + 2 from rfl, fld_same]; rfl
def FieldsR (l : List Knd) (name : ByteArray) (w : World) (e : Ending) (w' : World) : Prop :=
 ∃ u, e = .returned (.tuple #[u, .bool (fieldsOf l name).isSome]) /\ Sl fldL w' u ((fieldsOf l name).getD []) /\ Below w.heap.size w w'
def FieldsO (l : List Knd) (name : ByteArray) (w : World) (e : Ending) (w' : World) : Prop :=
 ∃ u, e = .returned (.tuple #[u, .bool (fieldsOf l name).isSome]) /\ (Own w' w.heap.size 84 4 u ((fieldsOf l name).getD []).length (((fieldsOf l name).getD []).flatMap Fld.enc) /\ ∀ x ∈ (fieldsOf l name).getD [], x.ok) /\ Below w.heap.size w w'
theorem kin_known {l : List Knd} {name : ByteArray} : ∀ s ∈ kinL l name, ∃ (i : Nat) (k : Knd), kFind l s = i /\ l[i]? = some k /\ fldsFor l s = k.fields := by
 intro s hs
 obtain ⟨⟨k, hk, rfl⟩, _⟩ := mem_kinL.1 hs
 obtain ⟨i, x, h1, h2, h3, _⟩ := kFind_pos (kFind_mem hk)
 refine ⟨i, x, h1, h2, ?_⟩
 unfold fldsFor
 rw [find_of_kFind h1 h2]
theorem kinL_len (l : List Knd) (name : ByteArray) : (kinL l name).length <= l.length := by
 unfold kinL
 rw [List.length_map]
 exact List.length_filter_le _ _
theorem fold_step {f : Fld} {rest acc : List Fld} {r : Option (List Fld)} (h : r = (f :: rest).foldlM putF acc) : (∀ acc', putF acc f = some acc' -> r = rest.foldlM putF acc') /\ (putF acc f = none -> r = none) := by
 rw [h, List.foldlM_cons]
 exact ⟨fun acc' e => by rw [e]; rfl, fun e => by rw [e]; rfl⟩
theorem put_new {acc : List Fld} {f : Fld} (h : eqAt (fldC f.name) acc (lowI (fldC f.name) acc) = false) : putF acc f = some (acc.take (lowI (fldC f.name) acc) ++ f :: acc.drop (lowI (fldC f.name) acc)) := by
 unfold putF; rw [h]; simp
theorem put_old {acc : List Fld} {f q : Fld} (h : eqAt (fldC f.name) acc (lowI (fldC f.name) acc) = true) (hq : acc[lowI (fldC f.name) acc]? = some q) : putF acc f = if q = f then some acc else none := by
 unfold putF; rw [h, hq]; simp
theorem eqAt_some {D : Type} {c : D -> Int} {l : List D} {p : Nat} (h : eqAt c l p = true) : ∃ d, l[p]? = some d := by
 unfold eqAt at h
 cases hd : l[p]? with
 | none => rw [hd] at h; simp at h
 | some d => exact ⟨d, rfl⟩
set_option maxRecDepth 100000 in
set_option maxHeartbeats 8000000 in
theorem fieldsOfO_any (l : List Knd) (name : ByteArray) (v : Value) (w : World) (hv : Sl kndL w v l) (hnm : Sm name) (hll : l.length <= 13) (hofs : ∀ k ∈ l, k.ofs.length <= 64) (hfl : ∀ k ∈ l, k.fields.length <= 8) :
 Calls Tryz.prog 86 #[v, .string name] w (FieldsO l name w) := by
 obtain ⟨A, c, rfl, _, _⟩ := hv.form
 have HV := Lib.hid hv
 have HFL := Lib.hid hfl
 have hkc := kinOf_any l name _ w hv hnm (by omega) hofs
 have HM : Hid (∀ s ∈ kinL l name, ∃ (i : Nat) (k : Knd), kFind l s = i /\ l[i]? = some k /\ fldsFor l s = k.fields) := kin_known
 have HF : Hid (fieldsOf l name = (((kinL l name).drop 0).flatMap (fldsFor l)).foldlM putF []) := by unfold Hid; rw [fieldsOf_eq, List.drop_zero]; rfl
 have hkl := kinL_len l name
 clear hv hfl hofs
 go_enter Tryz.func86, Tryz.ntmps86
 go_wp2_with fail
 refine hkc.mono ?_
 clear hkc
 rintro e w1 ⟨kv, rfl, hks, hb1⟩
 generalize kinL l name = ks at *
 obtain ⟨Ak, ck, rfl, _, _⟩ := hks.form
 have hks13 : (ks.length : Int) <= 13 := by omega
 go_wp2_with fail
 go_loopw [6, 17] (fun ov i wr => ∃ (k : Nat) (acc : List Fld), k <= ks.length /\ i = .int .i64 k /\ Below w1.heap.size w1 wr /\ Own wr w1.heap.size 84 4 ov acc.length (acc.flatMap Fld.enc) /\ acc.length <= 8 * k /\
  Hid (∀ x ∈ acc, x.ok) /\ Hid (Rise acc) /\ Hid (fieldsOf l name = ((ks.drop k).flatMap (fldsFor l)).foldlM putF acc)) (fun _ i _ => ks.length - (intOf i).toNat)
 case atStart => exact ⟨0, [], Nat.zero_le _, rfl, Below.refl _ _, Own.nil _ _ _ _, Nat.le_refl _, (by intro x hx; simp at hx), List.Pairwise.nil, HF⟩
 obtain ⟨k, acc, hk, rfl, hbr, hown, hacc, HO, HR, HE⟩ := hrel
 by_cases hlt : k < ks.length
 ·obtain ⟨s, hs⟩ : ∃ s, ks[k]? = some s := ⟨_, List.getElem?_eq_getElem hlt⟩
  obtain ⟨idx, kd, hidx, hkd, hfs⟩ := HM.out s (List.mem_of_getElem? hs)
  have HE2 : Hid (fieldsOf l name = (kd.fields ++ (ks.drop (k + 1)).flatMap (fldsFor l)).foldlM putF acc) := by
   unfold Hid; rw [HE.out, drop_cons hs, List.flatMap_cons, hfs]
  obtain ⟨bk, ok, rfl, hss, x0⟩ := str_at (hks.below hbr) hs
  have hbwr := hb1.trans (hbr.mono hb1.size)
  have hc := kFind_any l s _ wr (HV.out.below hbwr)
  rw [hidx] at hc
  have hkf : kd.fields.length <= 8 := HFL.out kd (List.mem_of_getElem? hkd)
  have hil : idx < l.length := (List.getElem?_eq_some_iff.1 hkd).1
  have hil' : (idx : Int) < (l.length : Int) := by omega
  have hlt' : (k : Int) < (ks.length : Int) := by omega
  have HKD := Lib.hid hkd
  have HKS := Lib.hid hks
  clear HE hs hidx hfs hkd hks hkl
  go_wp2_with fail
  refine hc.mono ?_
  clear hc
  rintro e w2 ⟨rfl, hb2⟩
  have hbw2 := hbwr.trans (hb2.mono hbwr.size)
  have hbr2 := hbr.trans (hb2.mono hbr.size)
  have hown2 := hown.below hb2
  obtain ⟨bl, ol, rfl, u, x, _, _, hfx, _, _, c2w⟩ := knd_at HV.out HKD.out
  have c2 := cell_below hbw2 c2w
  obtain ⟨Af, cf, rfl, _, _⟩ := hfx.form
  clear hown hbr hbwr hb2 x0 c2w
  go_wp2_with fail
  go_loopw [6, 29] (fun ov j wx => ∃ (m : Nat) (acc : List Fld), m <= kd.fields.length /\ j = .int .i64 m /\ Below w1.heap.size w1 wx /\ Own wx w1.heap.size 84 4 ov acc.length (acc.flatMap Fld.enc) /\ acc.length <= 8 * k + m /\
   Hid (∀ x ∈ acc, x.ok) /\ Hid (Rise acc) /\ Hid (fieldsOf l name = (kd.fields.drop m ++ (ks.drop (k + 1)).flatMap (fldsFor l)).foldlM putF acc)) (fun _ j _ => kd.fields.length - (intOf j).toNat)
  case atStart => exact ⟨0, acc, Nat.zero_le _, rfl, hbr2, hown2, hacc, HO, HR, by unfold Hid; rw [List.drop_zero]; exact HE2.out⟩
  clear hacc HO HR HE2 hown2 hbr2 hbw2 c2
  obtain ⟨m, acc, hm, rfl, hbx, hown, hacc, HO, HR, HE⟩ := hrel
  obtain ⟨Ao, co, rfl, _, _⟩ := hown.form
  have hbwx := hb1.trans (hbx.mono hb1.size)
  by_cases hm2 : m < kd.fields.length
  ·obtain ⟨f, hf⟩ : ∃ f, kd.fields[m]? = some f := ⟨_, List.getElem?_eq_getElem hm2⟩
   obtain ⟨bf, of, rfl, hok, y0, y1, y2, y3⟩ := fld_at (hfx.below hbwx) hf
   have HE3 : Hid (fieldsOf l name = (f :: (kd.fields.drop (m + 1) ++ (ks.drop (k + 1)).flatMap (fldsFor l))).foldlM putF acc) := by
    unfold Hid; rw [HE.out, drop_cons hf]; rfl
   have HS := Lib.hid (fold_step HE3.out)
   obtain ⟨z0, z1, z2, z3⟩ := cell_box4 wr (.string f.name) (.int .i64 f.ty) (.bool f.must) (.bool f.key) 84
   have hbB : Below w1.heap.size w1 (wr.alloc (.cells #[.string f.name, .int .i64 f.ty, .bool f.must, .bool f.key] 84)) := hbx.alloc hbx.size _
   have hownB := hown.alloc (.cells #[.string f.name, .int .i64 f.ty, .bool f.must, .bool f.key] 84)
   have hbs := bs_fld 138 #[] (by intro args w; kernel_rfl) (.string f.name) (fldC f.name) acc _ _ (hownB.flds HO.out)
    (fun d u wr' _ hu => by obtain ⟨rfl, _⟩ := hu; exact fieldsOf1_any d f.name wr') (lowI (fldC f.name) acc) (by omega) (lowI_le _ _) (fun i d hi hd => low_lt hi hd) (fun i d hi hd => low_ge (rise_chain HR.out) (fldC_mono _) hi hd)
   have hpl := lowI_le (fldC f.name) acc
   have hm2' : (m : Int) < (kd.fields.length : Int) := by omega
   have hm8 : (m : Int) <= 8 := by omega
   have hacc' : (acc.length : Int) <= 1000 := by omega
   have hokf : ∀ x ∈ acc, x.ok := HO.out
   have HOF : Hid (∀ acc', putF acc f = some acc' -> (∀ x ∈ acc', x.ok) /\ Rise acc') := fun acc' he =>
    ⟨fun x hx => by rcases (mem_putF he x).1 hx with h | rfl; exact hokf x h; exact hok, putF_rise HR.out he⟩
   clear hokf
   cases hq : eqAt (fldC f.name) acc (lowI (fldC f.name) acc) with
   | false =>
    rw [hq] at hbs
    have HP := Lib.hid (put_new hq)
    generalize lowI (fldC f.name) acc = p at *
    clear hq hf HE HE3
    go_wp2_with fail
    refine hbs.mono ?_
    clear hbs
    rintro e w3 ⟨rfl, hb3⟩
    have hown3 := hownB.below hb3
    have hb13 := hbB.trans (hb3.mono hbB.size)
    have q0 := cell_below hb3 z0
    have q1 := cell_below hb3 z1
    have q2 := cell_below hb3 z2
    have q3 := cell_below hb3 z3
    clear z0 z1 z2 z3 hownB hbB y0 y1 y2 y3
    go_wp2_with fail
    refine (ins_fld (w3.alloc (.cells #[.string f.name, .int .i64 f.ty, .bool f.must, .bool f.key] 84)) w1.heap.size _ acc.length (acc.flatMap Fld.enc) (hown3.alloc _) p hpl w3.heap.size f.enc rfl (heap_alloc_new _ _) f.enc_one (oneCell_flat Fld.enc_one acc)
     (fun e => by have := (hown3.lt _ e).2; omega) (by have := hb13.size; simp; omega) (by omega)).mono ?_
    rintro e w4 ⟨v', rfl, hown4, hg4⟩
    have hl' : (acc.take p ++ f :: acc.drop p).length = acc.length + 1 := by simp; omega
    rw [flat_insert Fld.enc_len acc p hpl, <- hl'] at hown4
    have hb4 : Below w1.heap.size w1 w4 := (hb13.alloc hb13.size _).grown hg4 (by have := hb13.size; simp; omega) (fun kk e => (hown3.lt kk e).1)
    have HN := Lib.hid (HS.out.1 _ HP.out)
    have HO2 := Lib.hid (HOF.out _ HP.out).1
    have HR2 := Lib.hid (HOF.out _ HP.out).2
    have hl2 : (acc.take p ++ f :: acc.drop p).length <= 8 * k + (m + 1) := by omega
    clear hg4 HS HP HOF q0 q1 q2 q3
    generalize acc.take p ++ f :: acc.drop p = acc' at *
    obtain ⟨A', c', rfl, _, _⟩ := hown4.form
    clear hl'
    go_wp2_with fail
    go_roundw
    case rel => exact ⟨m + 1, acc', by omega, by go_num, hb4, hown4, hl2, HO2, HR2, HN⟩
    case measure => simp [intOf]; omega
   | true =>
    obtain ⟨q, hq2⟩ := eqAt_some hq
    rw [hq] at hbs
    have HP := Lib.hid (put_old hq hq2)
    have hplt : lowI (fldC f.name) acc < acc.length := (List.getElem?_eq_some_iff.1 hq2).1
    generalize lowI (fldC f.name) acc = p at *
    have hplt' : (p : Int) < (acc.length : Int) := by omega
    have HQ2 := Lib.hid hq2
    clear hq hf HE HE3 hq2
    go_wp2_with fail
    refine hbs.mono ?_
    clear hbs
    rintro e w3 ⟨rfl, hb3⟩
    have hown3 := hownB.below hb3
    have hb13 := hbB.trans (hb3.mono hbB.size)
    have q0 := cell_below hb3 z0
    have q1 := cell_below hb3 z1
    have q2 := cell_below hb3 z2
    have q3 := cell_below hb3 z3
    obtain ⟨bo, oo, hAo, _, r0, r1, r2, r3⟩ := fld_at (hown3.flds HO.out) HQ2.out
    subst hAo
    have hneq := fld_neq q f
    have hgd := fld_guard
    clear z0 z1 z2 z3 hownB hbB y0 y1 y2 y3
    by_cases hqf : q = f
    ·have hd : decide (q = f) = true := decide_eq_true hqf
     have HP2 : Hid (putF acc f = some acc) := by unfold Hid; rw [HP.out, if_pos hqf]
     rw [hd] at hneq
     have HN := Lib.hid (HS.out.1 _ HP2.out)
     clear HS HP HP2 HOF hd hqf HQ2
     go_wp2_with fail
     go_quiet (fail)
     go_wp2_with fail
     go_roundw
     case rel => exact ⟨m + 1, acc, by omega, by go_num, below_drewN hb13 _, hown3.drewN _, by omega, HO, HR, HN⟩
     case measure => simp [intOf]; omega
    have hd : decide (q = f) = false := decide_eq_false hqf
    have HP2 : Hid (putF acc f = none) := by unfold Hid; rw [HP.out, if_neg hqf]
    rw [hd] at hneq
    have HN := Lib.hid (HS.out.2 HP2.out)
    clear HS HP HP2 HOF hd hqf HQ2
    go_wp2_with fail
    go_quiet (fail)
    go_wp2_with fail
    go_ret2
    refine ⟨.slice none 0 0, ?_, ?_, below_drewN (hb1.trans (hb13.mono hb1.size)) _⟩
    ·rw [HN.out]; rfl
    rw [HN.out]; exact ⟨Own.nil _ _ _ _, fun x hx => by cases hx⟩
  obtain rfl : m = kd.fields.length := by omega
  have HE3 : Hid (fieldsOf l name = ((ks.drop (k + 1)).flatMap (fldsFor l)).foldlM putF acc) := by unfold Hid; rw [HE.out, List.drop_length]; rfl
  clear HE
  go_wp2_with fail
  go_roundw
  case rel => exact ⟨k + 1, acc, by omega, by go_num, hbx, hown, by omega, HO, HR, HE3⟩
  case measure => simp [intOf]; omega
 obtain rfl : k = ks.length := by omega
 have HQ : Hid (fieldsOf l name = some acc) := by unfold Hid; rw [HE.out, List.drop_length]; rfl
 obtain ⟨Ao, co, rfl, _, _⟩ := hown.form
 go_wp2_with fail
 go_ret2
 refine ⟨.slice Ao acc.length co, ?_, ?_, hb1.trans (hbr.mono hb1.size)⟩
 ·rw [HQ.out]; rfl
 rw [HQ.out]; exact ⟨hown.mono hb1.size, HO.out⟩
theorem fieldsOf_any (l : List Knd) (name : ByteArray) (v : Value) (w : World) (hv : Sl kndL w v l) (hnm : Sm name) (hll : l.length <= 13) (hofs : ∀ k ∈ l, k.ofs.length <= 64) (hfl : ∀ k ∈ l, k.fields.length <= 8) :
 Calls Tryz.prog 86 #[v, .string name] w (FieldsR l name w) :=
 (fieldsOfO_any l name v w hv hnm hll hofs hfl).mono fun _ _ ⟨u, h1, h2, h3⟩ => ⟨u, h1, h2.1.flds h2.2, h3⟩
def tyF (fs : List Fld) : ByteArray -> Int := fs.foldl (fun F f => fun s => if f.name = s then f.ty else F s) (fun _ => 0)
theorem tyF_snoc (fs : List Fld) (f : Fld) : tyF (fs ++ [f]) = fun s => if f.name = s then f.ty else tyF fs s := by simp [tyF]
def badF (fs : List Fld) (p : Prp) : Bool := !decide (tyF fs p.name = p.v.ty)
def lackF (n : Nod) (f : Fld) : Bool := f.must && !rhas n.props f.name
def recF (fs : List Fld) (n : Nod) : List Flt := (n.props.filter (badF fs)).map (fun p => ⟨2, n.id, p.name⟩) ++ (fs.filter (lackF n)).map (fun f => ⟨3, n.id, f.name⟩)
theorem take_snocF {D : Type} {l : List D} {k : Nat} {d : D} (h : l[k]? = some d) : l.take (k + 1) = l.take k ++ [d] := by rw [List.take_add_one, h]; rfl
theorem filt_snoc {D : Type} {l : List D} {k : Nat} {d : D} (p : D -> Bool) (f : D -> Flt) (h : l[k]? = some d) : ((l.take (k + 1)).filter p).map f = ((l.take k).filter p).map f ++ if p d then [f d] else [] := by
 rw [take_snocF h, List.filter_append, List.map_append]
 cases hp : p d <;> simp [hp]
theorem filt_le {D : Type} (l : List D) (k : Nat) (p : D -> Bool) (f : D -> Flt) : (((l.take k).filter p).map f).length <= k := by
 rw [List.length_map]
 exact Nat.le_trans (List.length_filter_le _ _) (by rw [List.length_take]; omega)
theorem MapI.of_block {w w' : World} {b n : Nat} {F : ByteArray -> Int} (h : MapI w b n F) (hb : w'.heap[b]? = w.heap[b]?) : MapI w' b n F := by
 obtain ⟨D, ⟨es, clock, h1, h2⟩, h3⟩ := h
 exact ⟨D, ⟨es, clock, hb.trans h1, h2⟩, h3⟩
theorem MapI.keep {w w' : World} {b n : Nat} {F : ByteArray -> Int} (h : MapI w b n F) (hk : ∀ m c, w.heap[b]? = some (.map m c) -> w'.heap[b]? = some (.map m c)) : MapI w' b n F := by
 have h0 := h
 obtain ⟨D, ⟨es, clock, h1, h2⟩, h3⟩ := h
 exact h0.of_block ((hk _ _ h1).trans h1.symm)
theorem MapI.below {w w' : World} {b n : Nat} {F : ByteArray -> Int} (h : MapI w b n F) (hb : Below w.heap.size w w') : MapI w' b n F := h.of_block (hb.block _ h.lt)
set_option maxRecDepth 100000 in
set_option maxHeartbeats 8000000 in
theorem record_any (B bc : Nat) (vk vb vn vt mv out : Value) (fs : List Flt) (n : Nod) (fields : List Fld) (u v : Value) (W1 w : World) (hBW : B = W1.heap.size) (hW : Below W1.heap.size W1 w) (hC : Ck B w bc vk vb vn vt mv out fs)
 (hu : Sl prpL W1 u n.props) (hid : I64 n.id) (hch : chain prpLt n.props = true) (hpl : n.props.length <= 1000) (hf : Own w B 84 4 v fields.length (fields.flatMap Fld.enc)) (hfo : ∀ x ∈ fields, x.ok) (hfl : fields.length <= 1000) (hl : fs.length <= 90000) :
 Calls Tryz.prog 208 #[.pointer (some ⟨bc, 0, none⟩), .agg #[.int .i64 n.id, .string n.kind, u], v] w fun e w' => e = .returned (.tuple #[]) /\ Told1 B w w' bc vk vb vn vt mv (fs ++ recF fields n) := by
 obtain ⟨Au, cu, rfl, _, _⟩ := hu.form
 obtain ⟨Af, cf, rfl, _, _⟩ := hf.form
 have hmm := @run_makeMap Tryz.prog
 obtain ⟨W0, hW0⟩ : ∃ W0, W0 = (w.alloc (.cells #[.int .i64 n.id, .string n.kind, .slice Au n.props.length cu] 29)).alloc (.map #[] 0) := ⟨_, rfl⟩
 have hb0 : Below w.heap.size w W0 := by rw [hW0]; exact ((Below.refl _ _).alloc (Nat.le_refl _) _).alloc (by simp) _
 have g0 : W0.heap[w.heap.size]? = some (.cells #[.int .i64 n.id, .string n.kind, .slice Au n.props.length cu] 29 (0, 0)) := by
  rw [hW0, Below.heap_alloc _ _ _ (by simp)]; exact heap_alloc_new _ _
 have hM0 : MapI W0 (w.heap.size + 1) 0 (fun _ => 0) := by
  have := MapI.made (w.alloc (.cells #[.int .i64 n.id, .string n.kind, .slice Au n.props.length cu] 29))
  rw [hW0]; simpa using this
 have hW0' := hW0.symm
 have HM0 := Lib.hid hM0
 have HF := Lib.hid hf
 have HFO := Lib.hid hfo
 have HC := Lib.hid hC
 have HU := Lib.hid hu
 have HG := Lib.hid g0
 have hwB : B <= w.heap.size := by rw [hBW]; exact hW.size
 have hw0 := hb0.size
 have hs0 : W0.heap.size = w.heap.size + 2 := by rw [hW0]; simp
 clear hf hC hu g0 hM0 hW0 hfo
 go_enter Tryz.func208, Tryz.ntmps208
 go_wp2_with fail
 clear hW0' hmm
 go_loopw [18] (fun i wr => ∃ k : Nat, k <= fields.length /\ i = .int .i64 k /\ Below w.heap.size w wr /\ wr.heap[w.heap.size]? = some (.cells #[.int .i64 n.id, .string n.kind, .slice Au n.props.length cu] 29 (0, 0)) /\ Hid (MapI wr (w.heap.size + 1) k (tyF (fields.take k))) /\ w.heap.size + 2 <= wr.heap.size) (fun i _ => fields.length - (intOf i).toNat)
 case atStart => exact ⟨0, Nat.zero_le _, rfl, hb0, HG.out, HM0.out, by omega⟩
 clear HM0 HG
 obtain ⟨k, hk, rfl, hbr, hg, HM, hz⟩ := hrel
 by_cases hlt : k < fields.length
 ·obtain ⟨f, hd⟩ : ∃ d, fields[k]? = some d := ⟨_, List.getElem?_eq_getElem hlt⟩
  obtain ⟨gb, o, rfl, hok, q0, q1, q2, q3⟩ := fld_at ((HF.out.below hbr).flds HFO.out) hd
  have hlt' : (k : Int) < (fields.length : Int) := by omega
  have ha1 : Below wr.heap.size wr (wr.alloc (.cells #[.string f.name, .int .i64 f.ty, .bool f.must, .bool f.key] 84)) := (Below.refl _ _).alloc (Nat.le_refl _) _
  obtain ⟨z0, z1, z2, z3⟩ := cell_box4 wr (.string f.name) (.int .i64 f.ty) (.bool f.must) (.bool f.key) 84
  have hnm : f.name.size <= maxLen := by have := hok.1; unfold Sm at this; unfold maxLen; omega
  obtain ⟨w5, hput, hM5, hg5⟩ := (HM.out.below ha1).put (by unfold maxLen; omega) hnm hok.2
  have HN : Hid (MapI w5 (w.heap.size + 1) (k + 1) (tyF (fields.take (k + 1)))) := by unfold Hid; rw [take_snocF hd, tyF_snoc]; exact hM5
  have hg1 := grown_block hg5 ((ha1.block _ (geB hg)).trans hg) (by simp)
  have hb5 : Below w.heap.size w w5 := (hbr.alloc hbr.size _).grown hg5 (by simp; omega) (fun j e => by cases e; omega)
  have hs5 := hg5.size
  have hz5 : w.heap.size + 2 <= w5.heap.size := by simp at hs5; omega
  clear hd hok hM5 hg5 hs5 HM hg hbr ha1
  go_wp2_with fail
  go_roundw
  case rel => exact ⟨k + 1, by omega, by go_num, hb5, hg1, HN, hz5⟩
  case measure => simp [intOf]; omega
 obtain rfl : k = fields.length := by omega
 rw [List.take_length] at HM
 have HBR := Lib.hid hbr
 have HMF := Lib.hid HM.out
 have HGR := Lib.hid hg
 have hC1 : Told1 B w wr bc vk vb vn vt mv fs := Told1.first hbr hwB ⟨⟨_, HC.out.below hbr⟩, Below.refl _ _, fun _ _ _ => Same.refl _ _, fun _ _ _ h => h, Nat.le_refl _⟩
 have HC1 := Lib.hid hC1
 have y2 := block_cell hg 2
 have hpl' : (n.props.length : Int) <= 1000 := by omega
 have HR : Hid (recF fields n = (n.props.filter (badF fields)).map (fun p => ⟨2, n.id, p.name⟩) ++ (fields.filter (lackF n)).map (fun f => ⟨3, n.id, f.name⟩)) := rfl
 clear hbr HM hC1
 go_wp2_with fail
 go_loopw [31] (fun i wx => ∃ k : Nat, k <= n.props.length /\ i = .int .i64 k /\ Hid (Told1 B w wx bc vk vb vn vt mv (fs ++ (n.props.take k |>.filter (badF fields)).map (fun p => ⟨2, n.id, p.name⟩))) /\ wx.heap[w.heap.size]? = some (.cells #[.int .i64 n.id, .string n.kind, .slice Au n.props.length cu] 29 (0, 0)) /\ Hid (MapI wx (w.heap.size + 1) fields.length (tyF fields)) /\ w.heap.size + 2 <= wx.heap.size) (fun i _ => n.props.length - (intOf i).toNat)
 case atStart => exact ⟨0, Nat.zero_le _, rfl, by unfold Hid; simpa using HC1.out, hg, HMF, hz⟩
 clear HMF HC1 HGR hg y2
 obtain ⟨k, hk, rfl, HT, hg, HM, hz⟩ := hrel
 have y0 := block_cell hg 0
 have y2 := block_cell hg 2
 by_cases hlt : k < n.props.length
 ·obtain ⟨p, hd⟩ : ∃ d, n.props[k]? = some d := ⟨_, List.getElem?_eq_getElem hlt⟩
  have hWr : Below W1.heap.size W1 wr := by rw [hBW] at HT; exact hW.trans HT.out.b
  obtain ⟨gb, o, rfl, hok, q0, q1, q2, q3⟩ := prp_at (HU.out.below hWr) hd
  have hlt' : (k : Int) < (n.props.length : Int) := by omega
  have ha1 : Below wr.heap.size wr (wr.alloc (.cells #[.string p.name, .int .i64 p.v.ty, .int .i64 p.v.n, .string p.v.s] 33)) := (Below.refl _ _).alloc (Nat.le_refl _) _
  obtain ⟨z0, z1, z2, z3⟩ := cell_box4 wr (.string p.name) (.int .i64 p.v.ty) (.int .i64 p.v.n) (.string p.v.s) 33
  have hnm : p.name.size <= maxLen := by have := hok.1; unfold Sm at this; unfold maxLen; omega
  have hlk := (HM.out.below ha1).look hnm
  have y0 := cell_below ha1 y0
  have HS := Lib.hid (filt_snoc (badF fields) (fun p => (⟨2, n.id, p.name⟩ : Flt)) hd)
  have hle := filt_le n.props k (badF fields) (fun p => (⟨2, n.id, p.name⟩ : Flt))
  have hBr : B <= wr.heap.size := by have := HT.out.z; omega
  have HT1 := Lib.hid (HT.out.last hBr ha1)
  have hg1 := (ha1.block _ (geB hg)).trans hg
  have HM1 := Lib.hid (HM.out.below ha1)
  have HBD : Hid (badF fields p = !decide (tyF fields p.name = p.v.ty)) := rfl
  have HOK : Hid (Sm p.name) := hok.1
  have hz1 : w.heap.size + 2 <= (wr.alloc (.cells #[.string p.name, .int .i64 p.v.ty, .int .i64 p.v.n, .string p.v.s] 33)).heap.size := by simp; omega
  have hBa : B <= (wr.alloc (.cells #[.string p.name, .int .i64 p.v.ty, .int .i64 p.v.n, .string p.v.s] 33)).heap.size := by simp; omega
  clear hd hok HT hWr HM hg y2 ha1
  go_upto_region 10 with fail
  generalize wr.alloc (.cells #[.string p.name, .int .i64 p.v.ty, .int .i64 p.v.n, .string p.v.s] 33) = Wa at *
  generalize ht : tyF fields p.name = ty at *
  by_cases hq : ty = p.v.ty
  ·have hb1 : (ty != p.v.ty) = false := by rw [bne_eq_false_iff_eq]; exact hq
   have HN : Hid (Told1 B w Wa bc vk vb vn vt mv (fs ++ ((n.props.take (k + 1)).filter (badF fields)).map (fun p => ⟨2, n.id, p.name⟩))) := by
    unfold Hid; rw [HS.out, HBD.out, decide_eq_true hq]; simpa using HT1.out
   clear hq HS HBD ht
   go_wp2_with fail
   go_roundw
   case rel => exact ⟨k + 1, by omega, by go_num, HN, hg1, HM1, hz1⟩
   case measure => simp [intOf]; omega
  have hb1 : (ty != p.v.ty) = true := by rw [bne_iff_ne]; exact hq
  have HN : Hid (fs ++ ((n.props.take (k + 1)).filter (badF fields)).map (fun p => (⟨2, n.id, p.name⟩ : Flt)) = (fs ++ ((n.props.take k).filter (badF fields)).map (fun p => (⟨2, n.id, p.name⟩ : Flt))) ++ [⟨2, n.id, p.name⟩]) := by
   unfold Hid; rw [HS.out, HBD.out, decide_eq_false hq]; simp
  obtain ⟨out', hc⟩ := HT1.out.c
  have htell := tell_any B bc vk vb vn vt mv out' _ ⟨2, n.id, p.name⟩ Wa hBa hc ⟨⟨by show (-9223372036854775808 : Int) <= 2; omega, by show (2 : Int) <= 9223372036854775807; omega⟩, hid, HOK.out⟩ (by rw [List.length_append]; omega)
  rw [<- HN.out] at htell
  clear hq HS HBD HN hc ht
  go_wp2_with fail
  refine htell.mono ?_
  clear htell
  rintro e w5 ⟨rfl, ht5⟩
  have HT5 := Lib.hid (HT1.out.trans ht5)
  have hg5 := ht5.s 29 (by decide) (by decide) _ _ _ hg1
  have HM5 := Lib.hid (HM1.out.keep (ht5.m _))
  have hz5 : w.heap.size + 2 <= w5.heap.size := by have := ht5.z; omega
  clear ht5
  go_wp2_with fail
  go_roundw
  case rel => exact ⟨k + 1, by omega, by go_num, HT5, hg5, HM5, hz5⟩
  case measure => simp [intOf]; omega
 obtain rfl : k = n.props.length := by omega
 rw [List.take_length] at HT
 generalize hl1 : (n.props.filter (badF fields)).map (fun p => (⟨2, n.id, p.name⟩ : Flt)) = l1 at *
 have hl1n : l1.length <= 1000 := by
  rw [<- hl1, List.length_map]
  have := List.length_filter_le (badF fields) n.props
  omega
 have hHT : Told1 B w wr bc vk vb vn vt mv (fs ++ l1) := HT.out
 have HT0 := Lib.hid hHT
 have HG0 := Lib.hid hg
 have hz0 := hz
 clear HT HM hl1 hHT y0 y2
 go_wp2_with fail
 go_loopw [52] (fun i wx => ∃ k : Nat, k <= fields.length /\ i = .int .i64 k /\ Hid (Told1 B w wx bc vk vb vn vt mv ((fs ++ l1) ++ ((fields.take k).filter (lackF n)).map (fun f => ⟨3, n.id, f.name⟩))) /\ wx.heap[w.heap.size]? = some (.cells #[.int .i64 n.id, .string n.kind, .slice Au n.props.length cu] 29 (0, 0))) (fun i _ => fields.length - (intOf i).toNat)
 case atStart => exact ⟨0, Nat.zero_le _, rfl, by unfold Hid; simpa using HT0.out, HG0.out⟩
 clear HT0 HG0 hg hz hz0
 obtain ⟨k, hk, rfl, HT, hg⟩ := hrel
 have y0 := block_cell hg 0
 have y2 := block_cell hg 2
 by_cases hlt : k < fields.length
 ·obtain ⟨f, hd⟩ : ∃ d, fields[k]? = some d := ⟨_, List.getElem?_eq_getElem hlt⟩
  have hWr : Below W1.heap.size W1 wr := by rw [hBW] at HT; exact hW.trans HT.out.b
  obtain ⟨gb, o, rfl, hok, q0, q1, q2, q3⟩ := fld_at ((HF.out.same (HT.out.s 84 (by decide) (by decide))).flds HFO.out) hd
  have hlt' : (k : Int) < (fields.length : Int) := by omega
  have ha1 : Below wr.heap.size wr (wr.alloc (.cells #[.string f.name, .int .i64 f.ty, .bool f.must, .bool f.key] 84)) := (Below.refl _ _).alloc (Nat.le_refl _) _
  obtain ⟨z0, z1, z2, z3⟩ := cell_box4 wr (.string f.name) (.int .i64 f.ty) (.bool f.must) (.bool f.key) 84
  have y0 := cell_below ha1 y0
  have y2 := cell_below ha1 y2
  have HS := Lib.hid (filt_snoc (lackF n) (fun f => (⟨3, n.id, f.name⟩ : Flt)) hd)
  have hle := filt_le fields k (lackF n) (fun f => (⟨3, n.id, f.name⟩ : Flt))
  have hBr : B <= wr.heap.size := by have := HT.out.z; omega
  have HT1 := Lib.hid (HT.out.last hBr ha1)
  have hg1 := (ha1.block _ (geB hg)).trans hg
  have HBD : Hid (lackF n f = (f.must && !rhas n.props f.name)) := rfl
  have HOK : Hid (Sm f.name) := hok.1
  have hBa : B <= (wr.alloc (.cells #[.string f.name, .int .i64 f.ty, .bool f.must, .bool f.key] 84)).heap.size := by simp; omega
  have hrf := rfind_any n.props f.name _ _ ((HU.out.below hWr).below ha1) hch hpl
  clear hd hok HT hWr hg ha1
  go_upto_region 16 with fail
  generalize wr.alloc (.cells #[.string f.name, .int .i64 f.ty, .bool f.must, .bool f.key] 84) = Wa at *
  generalize rhas n.props f.name = q at *
  generalize rpos n.props f.name = ps at *
  go_wp2_with fail
  refine hrf.mono ?_
  clear hrf
  rintro e w3 ⟨rfl, hb3⟩
  have z0 := cell_below hb3 z0
  have z2 := cell_below hb3 z2
  have y0 := cell_below hb3 y0
  have HT3 := Lib.hid (HT1.out.last hBa hb3)
  have hg3 := (hb3.block _ (geB hg1)).trans hg1
  have hB3 : B <= w3.heap.size := Nat.le_trans hBa hb3.size
  clear HT1 hg1 hb3 z1 z3 y2
  cases hq : (f.must && !q) with
  | false =>
   have HN : Hid (Told1 B w w3 bc vk vb vn vt mv ((fs ++ l1) ++ ((fields.take (k + 1)).filter (lackF n)).map (fun f => ⟨3, n.id, f.name⟩))) := by
    unfold Hid; rw [HS.out, HBD.out, hq]; simpa using HT3.out
   have HQ := Lib.hid hq
   clear HS HBD HT3 hq
   generalize f.must = fm at *
   cases fm <;> cases q
   case true.false => exact absurd HQ.out (by decide)
   all_goals
    clear HQ
    go_wp2_with fail
    go_roundw
    case rel => exact ⟨k + 1, by omega, by go_num, HN, hg3⟩
    case measure => simp [intOf]; omega
  | true =>
   have HN : Hid ((fs ++ l1) ++ ((fields.take (k + 1)).filter (lackF n)).map (fun f => (⟨3, n.id, f.name⟩ : Flt)) = ((fs ++ l1) ++ ((fields.take k).filter (lackF n)).map (fun f => (⟨3, n.id, f.name⟩ : Flt))) ++ [⟨3, n.id, f.name⟩]) := by
    unfold Hid; rw [HS.out, HBD.out, hq]; simp
   obtain ⟨out', hc⟩ := HT3.out.c
   have htell := tell_any B bc vk vb vn vt mv out' _ ⟨3, n.id, f.name⟩ w3 hB3 hc ⟨⟨by show (-9223372036854775808 : Int) <= 3; omega, by show (3 : Int) <= 9223372036854775807; omega⟩, hid, HOK.out⟩ (by rw [List.length_append, List.length_append]; omega)
   rw [<- HN.out] at htell
   have HQ := Lib.hid hq
   clear HS HBD HN hc hq
   generalize f.must = fm at *
   cases fm <;> cases q
   case true.false =>
    clear HQ
    go_wp2_with fail
    refine htell.mono ?_
    clear htell
    rintro e w5 ⟨rfl, ht5⟩
    have HT5 := Lib.hid (HT3.out.trans ht5)
    have hg5 := ht5.s 29 (by decide) (by decide) _ _ _ hg3
    clear ht5
    go_wp2_with fail
    go_roundw
    case rel => exact ⟨k + 1, by omega, by go_num, HT5, hg5⟩
    case measure => simp [intOf]; omega
   all_goals exact absurd HQ.out (by decide)
 obtain rfl : k = fields.length := by omega
 rw [List.take_length] at HT
 go_wp2_with fail
 go_end0
 exact ⟨rfl, by rw [HR.out, <- List.append_assoc]; exact HT.out⟩
end Go.Proofs.YtngbbefpphinjaaGreatDoor
