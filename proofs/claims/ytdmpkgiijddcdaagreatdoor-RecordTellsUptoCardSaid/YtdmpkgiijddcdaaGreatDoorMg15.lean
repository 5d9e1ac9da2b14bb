/- Parts: KinE, KinF, KinG, KinP, KinH, KinI, KinJ, KinK, KinL, SamA, RefA, ShA, Stir, LinA, NumA. -/
import Derived.Test.YtdmpkgiijddcdaaGreatDoorMg10
import Derived.Test.YtdmpkgiijddcdaaGreatDoorMg06
import Derived.Test.YtdmpkgiijddcdaaGreatDoorMg03
import Derived.Test.YtdmpkgiijddcdaaGreatDoorMg04
import Derived.Deep.RegionHeld3
import Derived.Test.YtdmpkgiijddcdaaGreatDoorMg02
import Derived.Test.YtdmpkgiijddcdaaGreatDoorMg14
import Derived.Test.YtdmpkgiijddcdaaGreatDoorMg11
import Derived.Deep.DeepCutAuto
import Derived.Test.YtdmpkgiijddcdaaGreatDoorMg01
import Derived.RangeFuncNested
import Derived.RegionIn
import Derived.Lib.IndexLaws
import Derived.IntWalk
import Derived.Test.YtdmpkgiijddcdaaGreatDoorMg09
/- Contracts: kind.FieldsOf's comparison and its binary search. -/
namespace Go.Proofs.YtdmpkgiijddcdaaGreatDoor
open Go.RowKit


def fldC (name : ByteArray) (f : Fld) : Int := cmpS f.name name
/-- One more field. -/
def putF (l : List Fld) (f : Fld) : Option (List Fld) :=
  if eqAt (fldC f.name) l (lowI (fldC f.name) l) then (if l[lowI (fldC f.name) l]? = some f then some l else none)
  else some (l.take (lowI (fldC f.name) l) ++ f :: l.drop (lowI (fldC f.name) l))
/-- All fields of some kinds, one behind the other. -/
def allF (fs : List Fld) : Option (List Fld) := fs.foldlM putF []
def fieldsOf (l : List Knd) (name : ByteArray) : Option (List Fld) :=
  allF ((kinL l name).flatMap fun s => match l.find? (fun k => decide (k.name = s)) with | some k => k.fields | none => [])

def tyB (t : Int) : Bool := decide (1 ≤ t ∧ t ≤ 3)
/-- What is wrong with one field, behind another one. -/
def fldE (p : Option Fld) (f : Fld) : Int :=
  if nameE f.name = 0 then (if tyB f.ty then (if f.key && !f.must then 3 else match p with | some q => (if ltS q.name f.name then 0 else 7) | none => 0) else 8) else nameE f.name
def fldsE : Option Fld → List Fld → Int
  | _, [] => 0
  | p, f :: r => if fldE p f = 0 then fldsE (some f) r else fldE p f

/-! ### What is wrong with kinds -/
def ofsE (l : List Knd) : List ByteArray → List ByteArray → Int
  | _, [] => 0
  | p, s :: r => if kFind l s < 0 then 5 else if p.any (fun y => decide (s = y)) then 7 else ofsE l (p ++ [s]) r
/-! ### Where it is -/
theorem idxI_nonneg {D : Type} {p : D → Bool} {l : List D} (h : 0 ≤ idxI p l) : ∃ (k : Nat) (d : D), idxI p l = k ∧ l[k]? = some d ∧ p d = true ∧ ∀ j x, j < k → l[j]? = some x → p x = false := by
  induction l with
  | nil => rw [show idxI p ([] : List D) = -1 from idxI_miss (fun j x hj => absurd hj (Nat.not_lt_zero _))] at h; omega
  | cons a l ih =>
    by_cases ha : p a = true
    · refine ⟨0, a, ?_, rfl, ha, fun j x hj => absurd hj (Nat.not_lt_zero _)⟩
      have := idxI_hit (p := p) (l := a :: l) (k := 0) (d := a) (fun j x hj => absurd hj (Nat.not_lt_zero _)) rfl ha
      simpa using this
    · have hf : p a = false := by simpa using ha
      by_cases hall : ∃ (k : Nat) (d : D), l[k]? = some d ∧ p d = true
      · have : l.any p = true := by obtain ⟨k, d, h1, h2⟩ := hall; exact List.any_eq_true.2 ⟨d, List.mem_of_getElem? h1, h2⟩
        rw [← idxI_any] at this
        obtain ⟨k, d, h1, h2, h3, h4⟩ := ih (by simpa using this)
        have hm : ∀ j x, j < k + 1 → (a :: l)[j]? = some x → p x = false := by
          intro j x hj hx
          cases j with
          | zero => simp at hx; subst hx; exact hf
          | succ j => exact h4 j x (by omega) (by simpa using hx)
        exact ⟨k + 1, d, idxI_hit hm (by simpa using h2) h3, by simpa using h2, h3, hm⟩
      · exfalso
        have hm : ∀ j x, j < (a :: l).length → (a :: l)[j]? = some x → p x = false := by
          intro j x _ hx
          cases j with
          | zero => simp at hx; subst hx; exact hf
          | succ j =>
            cases hp : p x with
            | false => rfl
            | true => exact absurd ⟨j, x, by simpa using hx, hp⟩ hall
        have := idxI_miss hm
        omega
theorem kFind_neg {l : List Knd} {s : ByteArray} (h : kFind l s < 0) : ∀ k ∈ l, k.name ≠ s := by
  intro k hk e
  have : l.any (fun k => decide (k.name = s)) = true := List.any_eq_true.2 ⟨k, hk, by simpa using e⟩
  rw [← idxI_any] at this
  unfold kFind at h
  simp at this
  omega
theorem kFind_pos {l : List Knd} {s : ByteArray} (h : 0 ≤ kFind l s) : ∃ (i : Nat) (k : Knd), kFind l s = i ∧ l[i]? = some k ∧ k.name = s ∧ ∀ j x, j < i → l[j]? = some x → x.name ≠ s := by
  obtain ⟨k, d, h1, h2, h3, h4⟩ := idxI_nonneg h
  exact ⟨k, d, h1, h2, by simpa using h3, fun j x hj hx => by simpa using h4 j x hj hx⟩
/-! ### Kinds that are right -/
/-- Each of another name; each comes of what stands ahead. -/
def Wf (l : List Knd) : Prop := ∀ (i : Nat) k, l[i]? = some k → (∀ (j : Nat) x, j < i → l[j]? = some x → x.name ≠ k.name) ∧ (∀ s ∈ k.ofs, ∃ (j : Nat) (x : Knd), j < i ∧ l[j]? = some x ∧ x.name = s)
theorem ofsE_zero {l : List Knd} : ∀ {r p : List ByteArray}, ofsE l p r = 0 → ∀ s ∈ r, 0 ≤ kFind l s
  | [], _, _, s, hs => by simp at hs
  | t :: r, p, h, s, hs => by
    rw [ofsE] at h
    split at h
    · omega
    · split at h
      · omega
      · rename_i h1 _
        rcases List.mem_cons.1 hs with rfl | hs
        · omega
        · exact ofsE_zero h s hs
structure OneOk (l : List Knd) (k : Knd) : Prop where
  nm : nameE k.name = 0
  new : kFind l k.name < 0
  ofl : k.ofs.length ≤ 4
  fll : k.fields.length ≤ 8
  ofs : ofsE l [] k.ofs = 0
  fls : fldsE none k.fields = 0
  all : ∃ fs, fieldsOf (l ++ [k]) k.name = some fs ∧ fs.length ≤ 8
structure Right (l : List Knd) : Prop where
  len : l.length ≤ 12
  one : ∀ (i : Nat) k, l[i]? = some k → OneOk (l.take i) k
theorem take_get {D : Type} {l : List D} {i j : Nat} {x : D} (h : j < i) (hx : l[j]? = some x) : (l.take i)[j]? = some x := by rw [List.getElem?_take, if_pos h, hx]
theorem Right.wf {l : List Knd} (h : Right l) : Wf l := by
  intro i k hk
  have ho := h.one i k hk
  refine ⟨fun j x hj hx => kFind_neg ho.new x (List.mem_of_getElem? (take_get hj hx)), fun s hs => ?_⟩
  obtain ⟨j, x, h1, h2, h3, _⟩ := kFind_pos (ofsE_zero ho.ofs s hs)
  rw [List.getElem?_take] at h2
  split at h2
  · exact ⟨j, x, by assumption, h2, h3⟩
  · cases h2
theorem Right.take {l : List Knd} (h : Right l) (n : Nat) : Right (l.take n) := by
  refine ⟨by have := h.len; simp; omega, fun i k hk => ?_⟩
  rw [List.getElem?_take] at hk
  split at hk
  · have := h.one i k hk
    rw [List.take_take, Nat.min_eq_left (by omega)]; exact this
  · cases hk
theorem Wf.take {l : List Knd} (h : Wf l) (n : Nat) : Wf (l.take n) := by
  intro i k hk
  rw [List.getElem?_take] at hk
  split at hk
  · rename_i hin
    obtain ⟨h1, h2⟩ := h i k hk
    refine ⟨fun j x hj hx => ?_, fun s hs => ?_⟩
    · rw [List.getElem?_take] at hx
      split at hx
      · exact h1 j x hj hx
      · cases hx
    · obtain ⟨j, x, e1, e2, e3⟩ := h2 s hs
      exact ⟨j, x, e1, take_get (by omega) e2, e3⟩
  · cases hk

/-! ### Kin -/
def kinFrom (l : List Knd) (S : ByteArray → Bool) : ByteArray → Bool := l.foldr (fun k S => kinStep S k) S
theorem kinSet_eq (l : List Knd) (name : ByteArray) : kinSet l name = kinFrom l (fun s => decide (name = s)) := rfl
theorem kinFrom_append (p q : List Knd) (S : ByteArray → Bool) : kinFrom (p ++ q) S = kinFrom p (kinFrom q S) := by unfold kinFrom; rw [List.foldr_append]
theorem kinStep_inv {S : ByteArray → Bool} {k : Knd} {s : ByteArray} (h : kinStep S k s = true) : S s = true ∨ s ∈ k.ofs := by
  unfold kinStep at h
  split at h
  · simp only [Bool.or_eq_true, List.any_eq_true, decide_eq_true_eq] at h
    rcases h with h | ⟨o, ho, rfl⟩
    · exact .inl h
    · exact .inr ho
  · exact .inl h
theorem kinFrom_inv : ∀ {l : List Knd} {S : ByteArray → Bool} {s : ByteArray}, kinFrom l S s = true → S s = true ∨ ∃ k ∈ l, s ∈ k.ofs
  | [], _, _, h => .inl h
  | k :: l, S, s, h => by
    rcases kinStep_inv (S := kinFrom l S) h with h | h
    · rcases kinFrom_inv (l := l) h with h | ⟨x, hx, h⟩
      · exact .inl h
      · exact .inr ⟨x, List.mem_cons_of_mem _ hx, h⟩
    · exact .inr ⟨k, List.mem_cons_self .., h⟩
theorem mem_kinL {l : List Knd} {a s : ByteArray} : s ∈ kinL l a ↔ (∃ k ∈ l, k.name = s) ∧ kinSet l a s = true := by
  unfold kinL
  simp only [List.mem_map, List.mem_filter]
  constructor
  · rintro ⟨k, ⟨h1, h2⟩, rfl⟩; exact ⟨⟨k, h1, rfl⟩, h2⟩
  · rintro ⟨⟨k, h1, rfl⟩, h2⟩; exact ⟨k, ⟨h1, h2⟩, rfl⟩
/-! ### Fields -/
def fldsFor (l : List Knd) (s : ByteArray) : List Fld := match l.find? (fun k => decide (k.name = s)) with | some k => k.fields | none => []
theorem fieldsOf_eq (l : List Knd) (name : ByteArray) : fieldsOf l name = allF ((kinL l name).flatMap (fldsFor l)) := rfl
/-- What stands behind a kind turns nothing of its kin. -/
theorem kinSet_take {l : List Knd} (hw : Wf l) {i : Nat} {k : Knd} (hk : l[i]? = some k) : kinSet l k.name = kinSet (l.take (i + 1)) k.name := by
  rw [kinSet_eq, kinSet_eq]
  conv => lhs; rw [← List.take_append_drop (i + 1) l]
  rw [kinFrom_append]
  congr 1
  have : ∀ q : List Knd, (∀ x ∈ q, x.name ≠ k.name) → kinFrom q (fun s => decide (k.name = s)) = fun s => decide (k.name = s) := by
    intro q
    induction q with
    | nil => intro _; rfl
    | cons y q ih =>
      intro hq
      have h1 := ih (fun x hx => hq x (List.mem_cons_of_mem _ hx))
      show kinStep (kinFrom q _) y = _
      rw [h1]
      unfold kinStep
      rw [if_neg]
      have := hq y (List.mem_cons_self ..)
      simpa using fun e => this e.symm
  refine this _ fun x hx => ?_
  obtain ⟨j, hj⟩ := List.mem_iff_getElem?.1 hx
  rw [List.getElem?_drop] at hj
  intro e
  exact (hw _ x hj).1 i k (by omega) hk e.symm
theorem kinL_take {l : List Knd} (hw : Wf l) {i : Nat} {k : Knd} (hk : l[i]? = some k) : kinL l k.name = kinL (l.take (i + 1)) k.name := by
  unfold kinL
  rw [← kinSet_take hw hk]
  have hsp : l.filter (fun x => kinSet l k.name x.name) = (l.take (i + 1)).filter (fun x => kinSet l k.name x.name) ++ (l.drop (i + 1)).filter (fun x => kinSet l k.name x.name) := by
    rw [← List.filter_append, List.take_append_drop]
  rw [hsp]
  have : (l.drop (i + 1)).filter (fun x => kinSet l k.name x.name) = [] := by
    rw [List.filter_eq_nil_iff]
    intro x hx hs
    obtain ⟨j, hj⟩ := List.mem_iff_getElem?.1 hx
    rw [List.getElem?_drop] at hj
    rw [kinSet_take hw hk, kinSet_eq] at hs
    rcases kinFrom_inv hs with h | ⟨y, hy, h⟩
    · simp at h
      exact (hw _ x hj).1 i k (by omega) hk h
    · obtain ⟨m, hm⟩ := List.mem_iff_getElem?.1 hy
      rw [List.getElem?_take] at hm
      split at hm
      · obtain ⟨n, z, e1, e2, e3⟩ := (hw m y hm).2 _ h
        exact (hw _ x hj).1 n z (by omega) e2 e3
      · cases hm
  rw [this, List.append_nil]
theorem fldsFor_take {l : List Knd} {n : Nat} {s : ByteArray} (h : ∃ k ∈ l.take n, k.name = s) : fldsFor l s = fldsFor (l.take n) s := by
  unfold fldsFor
  have : l.find? (fun k => decide (k.name = s)) = (l.take n).find? (fun k => decide (k.name = s)) := by
    conv => lhs; rw [← List.take_append_drop n l]
    rw [List.find?_append]
    have hs : ((l.take n).find? (fun k => decide (k.name = s))).isSome := by
      rw [List.find?_isSome]
      obtain ⟨k, h1, h2⟩ := h
      exact ⟨k, h1, by simpa using h2⟩
    obtain ⟨y, hy⟩ := Option.isSome_iff_exists.1 hs
    rw [hy]; rfl
  rw [this]
theorem flatMap_congr {A B : Type} {l : List A} {f g : A → List B} (h : ∀ x ∈ l, f x = g x) : l.flatMap f = l.flatMap g := by
  induction l with
  | nil => rfl
  | cons a l ih =>
    rw [List.flatMap_cons, List.flatMap_cons, h a (List.mem_cons_self ..), ih fun x hx => h x (List.mem_cons_of_mem _ hx)]
theorem fieldsOf_take {l : List Knd} (hw : Wf l) {i : Nat} {k : Knd} (hk : l[i]? = some k) : fieldsOf l k.name = fieldsOf (l.take (i + 1)) k.name := by
  rw [fieldsOf_eq, fieldsOf_eq, kinL_take hw hk]
  congr 1
  exact flatMap_congr fun s hs => fldsFor_take (mem_kinL.1 hs).1
theorem Right.fields {l : List Knd} (h : Right l) {k : Knd} (hk : k ∈ l) : ∃ fs, fieldsOf l k.name = some fs ∧ fs.length ≤ 8 := by
  obtain ⟨i, hi⟩ := List.mem_iff_getElem?.1 hk
  obtain ⟨fs, h1, h2⟩ := (h.one i k hi).all
  refine ⟨fs, ?_, h2⟩
  rw [fieldsOf_take h.wf hi, List.take_add_one, hi]
  exact h1
open Go Go.RowKit


theorem Sl.take {D : Type} {L : Lay D} {w : World} {A : Option Addr} {n c : Nat} {l : List D} (h : Sl L w (.slice A n c) l) {k : Nat} (hk : k ≤ l.length) : Sl L w (.slice A k c) (l.take k) := by
  obtain ⟨A', c', hv, h1, h2, h3⟩ := h
  injection hv with hA hn hc
  subst hA; subst hc
  have hl : (l.take k).length = k := by simp; omega
  refine ⟨A, c, by rw [hl], by rw [hl]; omega, h2, fun i d hi => ?_⟩
  rw [List.getElem?_take] at hi
  split at hi
  · exact h3 i d hi
  · cases hi





theorem drewN_step {w wr : World} (h : ∃ m, wr = w.drewN m) (n : Nat) : ∃ m, wr.drewN n = w.drewN m := by
  obtain ⟨m, rfl⟩ := h
  exact ⟨m + n, World.drewN_drewN ..⟩
/-- Two lists, place by place. -/
theorem lists_eq {D : Type} [DecidableEq D] {a b : List D} (hl : a.length = b.length) (h : ∀ j x y, j < a.length → a[j]? = some x → b[j]? = some y → x = y) : a = b := by
  apply List.ext_getElem? 
  intro i
  by_cases hi : i < a.length
  · have h1 := List.getElem?_eq_getElem hi
    have h2 : b[i]? = some b[i] := List.getElem?_eq_getElem (by omega)
    rw [h1, h2, h i _ _ hi h1 h2]
  · rw [List.getElem?_eq_none (by omega), List.getElem?_eq_none (by omega)]

theorem bytes_at (s : ByteArray) (k : Nat) (h : k < s.size) : s.data.toList[k]? = some s[k] := by
  rw [List.getElem?_eq_getElem (by simpa using h)]; rfl
set_option maxHeartbeats 1000000 in
theorem rname_any (s : ByteArray) (w : World) (hs : Sm s) : Calls Tryz.prog 21 #[.string s] w fun e w' => e = .returned (.int .i64 (nameE s)) ∧ w = w' := by
  unfold Sm at hs
  by_cases h0 : s.toList.isEmpty = true
  · have HE : Hid (nameE s = 2) := by unfold Hid nameE; rw [if_pos h0]
    have h1 : s.toList = [] := by simpa using h0
    clear h0
    go_enter Tryz.func21, Tryz.ntmps21
    go_wp2_with fail
    go_ret
    exact ⟨by rw [HE.out]; rfl, rfl⟩
  have h1 : s.toList.isEmpty = false := by simpa using h0
  have h2 : ¬ s.toList = [] := by intro e; rw [e] at h1; simp at h1
  by_cases h8 : 8 < s.size
  · have HE : Hid (nameE s = 2) := by unfold Hid nameE; rw [if_neg h0, if_pos h8]
    have h8' : (8 : Int) < (s.size : Int) := by omega
    clear h0
    go_enter Tryz.func21, Tryz.ntmps21
    go_wp2_with fail
    go_ret
    exact ⟨by rw [HE.out]; rfl, rfl⟩
  have h8' : (s.size : Int) ≤ 8 := by omega
  have HE0 : Hid (nameE s = if s.data.toList.any nameC then 2 else 0) := by unfold Hid nameE; rw [if_neg h0, if_neg h8]
  clear h0
  go_enter Tryz.func21, Tryz.ntmps21
  go_wp2_with fail
  go_loop [3] (fun i => ∃ k : Nat, k ≤ s.size ∧ i = .int .i64 k ∧ Hid (∀ j x, j < k → s.data.toList[j]? = some x → nameC x = false)) (fun i => s.size - (intOf i).toNat)
  case atStart => exact ⟨0, Nat.zero_le _, rfl, fun j x hj => absurd hj (Nat.not_lt_zero _)⟩
  case round =>
    obtain ⟨k, hk, rfl, HA⟩ := hrel
    by_cases hlt : k < s.size
    · have hlt' : (k : Int) < (s.size : Int) := by omega
      have HB := Lib.hid (bytes_at s k hlt)
      by_cases hlo : (s[k].toNat : Int) < 97
      · have HE : Hid (nameE s = 2) := by
          unfold Hid; rw [HE0.out, if_pos]
          exact List.any_eq_true.2 ⟨_, List.mem_of_getElem? HB.out, by unfold nameC; rw [decide_eq_true hlo]; rfl⟩
        clear HE0
        go_wp2_with fail
        go_ret
        exact ⟨by rw [HE.out]; rfl, rfl⟩
      · have hlo' : (97 : Int) ≤ (s[k].toNat : Int) := by omega
        by_cases hhi : (122 : Int) < (s[k].toNat : Int)
        · have HE : Hid (nameE s = 2) := by
            unfold Hid; rw [HE0.out, if_pos]
            exact List.any_eq_true.2 ⟨_, List.mem_of_getElem? HB.out, by unfold nameC; rw [decide_eq_true hhi]; simp⟩
          clear HE0
          go_wp2_with fail
          go_ret
          exact ⟨by rw [HE.out]; rfl, rfl⟩
        · have hhi' : (s[k].toNat : Int) ≤ 122 := by omega
          have HS : Hid (∀ j x, j < k + 1 → s.data.toList[j]? = some x → nameC x = false) := miss_step HA.out HB.out (by unfold nameC; rw [decide_eq_false hlo, decide_eq_false hhi]; rfl)
          clear hlo hhi HE0
          go_wp2_with fail
          go_round
          case rel => exact ⟨k + 1, by omega, by go_num, HS⟩
          case measure => simp [intOf]; omega
    · obtain rfl : k = s.size := by omega
      have HE : Hid (nameE s = 0) := by
        unfold Hid; rw [HE0.out, if_neg]
        intro h
        obtain ⟨x, hx, hc⟩ := List.any_eq_true.1 h
        obtain ⟨j, hj⟩ := List.mem_iff_getElem?.1 hx
        have := HA.out j x (by have := (List.getElem?_eq_some_iff.1 hj).1; simpa using this) hj
        rw [this] at hc; cases hc
      clear HE0
      go_wp2_with fail
      go_ret
      exact ⟨by rw [HE.out]; rfl, rfl⟩


theorem take_next {l : List UInt8} {k : Nat} {x : UInt8} (h : l[k]? = some x) : l.take (k + 1) = l.take k ++ [x] := by rw [List.take_add_one, h]; rfl
theorem ext_one {s : ByteArray} {k : Nat} {x : UInt8} (h : s.data.toList[k]? = some x) : s.extract k (k + 1) = bs [x] := by
  rw [ext_list, drop_cons_of h, show k + 1 - k = 1 by omega]; rfl
set_option maxRecDepth 100000 in
set_option maxHeartbeats 4000000 in
theorem rshow_any (v : Val) (hv : valE v = 0) (w : World) :
    Calls Tryz.prog 14 #[.agg #[.int .i64 v.ty, .int .i64 v.n, .string v.s]] w fun e w' => e = .returned (.string (bs (showL v))) ∧ Below w.heap.size w w' := by
  obtain ⟨ty, n, s⟩ := v
  have hb0 : Below w.heap.size w (w.alloc (.cells #[.int .i64 ty, .int .i64 n, .string s] 43)) := (Below.refl _ _).alloc (Nat.le_refl _) _
  have HF : Hid (showL ⟨ty, n, s⟩ = if ty = 1 then Lib.itoa n else if ty = 2 then (if n = 1 then trueL else falseL) else 39 :: (dbl s.data.toList ++ [39])) := rfl
  obtain ⟨c0, c1, c2⟩ := cell_box3 w (.int .i64 ty) (.int .i64 n) (.string s) 43
  rcases val_parts hv with ⟨rfl, h2, h3, h4⟩ | ⟨rfl, h2, h4⟩ | ⟨rfl, h2, h3, h4⟩
  · have h2 : -1000000 ≤ n := h2
    have h3 : n ≤ 1000000 := h3
    have HE : Hid (showL ⟨1, n, s⟩ = Lib.itoa n) := by unfold Hid; rw [HF.out, if_pos rfl]
    have hx := dig_any n ⟨h2, h3⟩ (w.alloc (.cells #[.int .i64 1, .int .i64 n, .string s] 43))
    clear HF hv h4
    go_enter Tryz.func14, Tryz.ntmps14
    go_wp2_with fail
    refine hx.mono ?_
    clear hx
    rintro e w1 ⟨rfl, hb1⟩
    go_wp2_with fail
    go_ret
    exact ⟨by rw [HE.out]; rfl, hb0.trans (hb1.mono hb0.size)⟩
  · have h2 : n = 0 ∨ n = 1 := h2
    rcases h2 with rfl | rfl
    · have HE : Hid (showL ⟨2, 0, s⟩ = falseL) := rfl
      clear HF hv h4
      go_enter Tryz.func14, Tryz.ntmps14
      go_wp2_with fail
      go_ret
      exact ⟨by rw [HE.out]; rfl, hb0⟩
    · have HE : Hid (showL ⟨2, 1, s⟩ = trueL) := rfl
      clear HF hv h4
      go_enter Tryz.func14, Tryz.ntmps14
      go_wp2_with fail
      go_ret
      exact ⟨by rw [HE.out]; rfl, hb0⟩
  · have h3 : s.size ≤ 20 := h3
    have HE : Hid (showL ⟨3, n, s⟩ = 39 :: (dbl s.data.toList ++ [39])) := by unfold Hid; rw [HF.out, if_neg (by omega), if_neg (by omega)]
    have hle : s.data.toList.length = s.size := by rw [Array.length_toList]; rfl
    have HLE := Lib.hid hle
    clear HF hv h4 h2 hle
    go_enter Tryz.func14, Tryz.ntmps14
    go_upto_region 8 with fail
    generalize w.alloc (.cells #[.int .i64 3, .int .i64 n, .string s] 43) = W0 at *
    go_wp2_with fail
    go_loop [3, 4] (fun sv i => ∃ k : Nat, k ≤ s.size ∧ i = .int .i64 k ∧ sv = .string (bs (39 :: dbl (s.data.toList.take k)))) (fun _ i => s.size - (intOf i).toNat)
    case atStart => exact ⟨0, Nat.zero_le _, rfl, by rw [List.take_zero]; rfl⟩
    case round =>
      obtain ⟨k, hk, rfl, rfl⟩ := hrel
      have hdl : (bs (39 :: dbl (s.data.toList.take k))).size ≤ 41 := by
        rw [bs_size]
        have := dbl_len2 (s.data.toList.take k)
        rw [List.length_take] at this
        simp only [List.length_cons]; omega
      by_cases hlt : k < s.size
      · have hlt' : (k : Int) < (s.size : Int) := by omega
        have HB := Lib.hid (bytes_at s k hlt)
        have HT := Lib.hid (take_next HB.out)
        have HX := Lib.hid (ext_one HB.out)
        have hxs : (s.extract k (k + 1)).size = 1 := by rw [HX.out, bs_size]; rfl
        by_cases hq : s[k] = 39
        · have q1 : ((s[k].toNat : Int) == 39) = true := by rw [hq]; rfl
          have q2 : (s[k].toNat : Int) = 39 := by rw [hq]; rfl
          have HN : Hid (bs (39 :: dbl (s.data.toList.take (k + 1))) = bs (39 :: dbl (s.data.toList.take k)) ++ ⟨#[39]⟩ ++ s.extract k (k + 1)) := by
            unfold Hid; rw [HT.out, HX.out, hq, dbl_append]
            show _ = bs (39 :: dbl (s.data.toList.take k)) ++ bs [39] ++ bs [39]
            rw [bs_append, bs_append]; simp [dbl]
          generalize bs (39 :: dbl (s.data.toList.take k)) = A at *
          have z1 : ¬ 9223372036854775807 < A.size + 1 := by omega
          have z2 : ¬ 9223372036854775807 < A.size + 1 + (s.extract k (k + 1)).size := by omega
          clear hq HT HX
          go_wp2_with fail
          go_round
          case rel => exact ⟨k + 1, by omega, by go_num, by rw [HN.out]⟩
          case measure => simp [intOf]; omega
        · have q2 : ¬ (s[k].toNat : Int) = 39 := fun e => hq (UInt8.toNat_inj.1 (by have : s[k].toNat = 39 := by omega
                                                                                    rw [this]; rfl))
          have q1 : ((s[k].toNat : Int) == 39) = false := beq_eq_false_iff_ne.2 q2
          have HN : Hid (bs (39 :: dbl (s.data.toList.take (k + 1))) = bs (39 :: dbl (s.data.toList.take k)) ++ s.extract k (k + 1)) := by
            unfold Hid; rw [HT.out, HX.out, dbl_append, bs_append, dbl_cons, if_neg hq]; rfl
          generalize bs (39 :: dbl (s.data.toList.take k)) = A at *
          have z2 : ¬ 9223372036854775807 < A.size + (s.extract k (k + 1)).size := by omega
          clear hq HT HX
          go_wp2_with fail
          go_round
          case rel => exact ⟨k + 1, by omega, by go_num, by rw [HN.out]⟩
          case measure => simp [intOf]; omega
      · obtain rfl : k = s.size := by omega
        have HN : Hid (bs (showL ⟨3, n, s⟩) = bs (39 :: dbl (s.data.toList.take s.size)) ++ ⟨#[39]⟩) := by
          unfold Hid; rw [HE.out, ← HLE.out, List.take_length]
          show _ = bs (39 :: dbl s.data.toList) ++ bs [39]
          rw [bs_append]; rfl
        generalize bs (39 :: dbl (s.data.toList.take s.size)) = A at *
        have z1 : ¬ 9223372036854775807 < A.size + 1 := by omega
        go_wp2_with fail
        go_ret
        exact ⟨by rw [HN.out]; rfl, hb0⟩

section
variable {F : Fence} {n : Nat} {P : Program} {α : Type}

end
open Go Go.RowKit Go.Shelf

attribute [local go_sem] Oper.semAt_some

end Go.Proofs.YtdmpkgiijddcdaaGreatDoor
