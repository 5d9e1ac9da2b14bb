/- Parts: Base, VtP, VtN. -/
import Derived.WalkKit
import Derived.WalkSpells
import Derived.WalkLawsBesides
import Derived.ProofKit
import Derived.OpenShut
import Derived.Handy
import Derived.BigQuiet
import Derived.Lib.QuietBelow
import Derived.Lib.Hide
import Derived.Lib.Replace
import Derived.Lib.CountLaws
import Derived.Lib.ItoaLen
import Derived.Lib.AtoiTie
import Derived.Lib.Strings
/- Plain predicates: how the program's data lie in memory (slices of numbers, texts and structs), and that they stay readable in every later world. No condition. -/
namespace Go.Proofs.YtakidgndipnciaaDoor
open Go.RowKit

/-- The numbers of an int. -/
def I64 (n : Int) : Prop := -9223372036854775808 ≤ n ∧ n ≤ 9223372036854775807
/-- A text that is not too long. -/
def Sm (s : ByteArray) : Prop := s.size ≤ 1048576

/-- How data of one kind lie in cells. -/
structure Lay (D : Type) where
  sz : Nat
  cells : World → D → List Value → Prop
  len : ∀ {w d cs}, cells w d cs → cs.length = sz
  below : ∀ {w w' : World} {d cs}, Below w.heap.size w w' → cells w d cs → cells w' d cs

/-- The slice value v reads as the list l. -/
def Sl {D : Type} (L : Lay D) (w : World) (v : Value) (l : List D) : Prop :=
  ∃ (A : Option Addr) (c : Nat), v = .slice A l.length c ∧ l.length ≤ c ∧ c ≤ maxLen ∧
    ∀ i d, l[i]? = some d → ∃ b o cs, A = some ⟨b, o, none⟩ ∧ L.cells w d cs ∧ ∀ j u, cs[j]? = some u → w.cell? ⟨b, o + (i * L.sz + j), none⟩ = some u

section
variable {D : Type} {L : Lay D} {w w' : World} {v : Value} {l : List D}

theorem cell_below (hb : Below w.heap.size w w') {a : Addr} {u : Value} (h : w.cell? a = some u) : w'.cell? a = some u :=
  (hb.cell (World.block_lt_of_cell? _ _ h)).trans h

theorem Sl.below (hb : Below w.heap.size w w') (h : Sl L w v l) : Sl L w' v l := by
  obtain ⟨A, c, hv, h1, h2, h3⟩ := h
  refine ⟨A, c, hv, h1, h2, fun i d hi => ?_⟩
  obtain ⟨b, o, cs, hA, hc, hx⟩ := h3 i d hi
  exact ⟨b, o, cs, hA, L.below hb hc, fun j u hj => cell_below hb (hx j u hj)⟩

theorem Sl.nil (c : Nat) (hc : c ≤ maxLen) (A : Option Addr) : Sl L w (.slice A 0 c) [] :=
  ⟨A, c, rfl, Nat.zero_le _, hc, fun i d hi => by simp at hi⟩

theorem Sl.form (h : Sl L w v l) : ∃ A c, v = .slice A l.length c ∧ l.length ≤ c ∧ c ≤ maxLen := by
  obtain ⟨A, c, hv, h1, h2, _⟩ := h
  exact ⟨A, c, hv, h1, h2⟩

theorem Sl.all {A : Option Addr} {n c : Nat} (h : Sl L w (.slice A n c) l) (hn : 0 < l.length) :
    ∃ b o, A = some ⟨b, o, none⟩ ∧ ∀ k d, l[k]? = some d → ∃ cs, L.cells w d cs ∧ ∀ j u, cs[j]? = some u → w.cell? ⟨b, o + (k * L.sz + j), none⟩ = some u := by
  obtain ⟨A', c', hv, h1, h2, h3⟩ := h
  injection hv with hA _ _
  subst hA
  obtain ⟨b, o, cs, hA, _, _⟩ := h3 0 _ (List.getElem?_eq_getElem hn)
  refine ⟨b, o, hA, fun k d hk => ?_⟩
  obtain ⟨b', o', cs, hA', hc, hx⟩ := h3 k d hk
  rw [hA] at hA'
  injection hA' with e
  injection e with e1 e2
  subst e1; subst e2
  exact ⟨cs, hc, hx⟩
theorem len_pos {k : Nat} {d : D} (hk : l[k]? = some d) : 0 < l.length := by have := (List.getElem?_eq_some_iff.1 hk).1; omega
end

/-- Slices as elements. -/
def slL {D : Type} (L : Lay D) : Lay (List D) where
  sz := 1
  cells w l cs := ∃ v, cs = [v] ∧ Sl L w v l
  len h := by obtain ⟨v, rfl, _⟩ := h; rfl
  below hb h := by obtain ⟨v, rfl, h⟩ := h; exact ⟨v, rfl, h.below hb⟩

/-- Data whose cells hang on the data alone. -/
def flatL {D : Type} (n : Nat) (ok : D → Prop) (enc : D → List Value) (hn : ∀ d, (enc d).length = n) : Lay D where
  sz := n
  cells _ d cs := cs = enc d ∧ ok d
  len h := by rw [h.1, hn]
  below _ h := h

def intL : Lay Int := flatL 1 I64 (fun n => [.int .i64 n]) (fun _ => rfl)
def byteL : Lay UInt8 := flatL 1 (fun _ => True) (fun b => [.int .u8 b.toNat]) (fun _ => rfl)
def strL : Lay ByteArray := flatL 1 Sm (fun s => [.string s]) (fun _ => rfl)

/-! ### The program's structs -/
structure Val where
  ty : Int
  n : Int
  s : ByteArray
  deriving DecidableEq
structure Prp where
  name : ByteArray
  v : Val
  deriving DecidableEq
structure Nod where
  id : Int
  kind : ByteArray
  props : List Prp
  deriving DecidableEq
structure Tie where
  bond : ByteArray
  src : Int
  dst : Int
  deriving DecidableEq
structure Grf where
  nodes : List Nod
  ties : List Tie
  deriving DecidableEq
def Val.ok (v : Val) : Prop := I64 v.ty ∧ I64 v.n ∧ Sm v.s
def Val.enc (v : Val) : List Value := [.int .i64 v.ty, .int .i64 v.n, .string v.s]
def Prp.ok (p : Prp) : Prop := Sm p.name ∧ p.v.ok
def Prp.enc (p : Prp) : List Value := [.string p.name, .int .i64 p.v.ty, .int .i64 p.v.n, .string p.v.s]
def Tie.ok (t : Tie) : Prop := Sm t.bond ∧ I64 t.src ∧ I64 t.dst
def Tie.enc (t : Tie) : List Value := [.string t.bond, .int .i64 t.src, .int .i64 t.dst]

def valL : Lay Val := flatL 3 Val.ok Val.enc (fun _ => rfl)
def tieL : Lay Tie := flatL 3 Tie.ok Tie.enc (fun _ => rfl)
/-! ### An element, cell by cell, as the walk spells it -/
section
variable {w : World} {A : Option Addr} {k n c : Nat}
theorem byte_all {l : List UInt8} (h : Sl byteL w (.slice A n c) l) (hn : 0 < l.length) :
    ∃ b o, A = some ⟨b, o, none⟩ ∧ ∀ k d, l[k]? = some d → w.cell? ⟨b, o + k, none⟩ = some (.int .u8 d.toNat) := by
  obtain ⟨b, o, hA, hall⟩ := h.all hn
  refine ⟨b, o, hA, fun k d hk => ?_⟩
  obtain ⟨cs, ⟨rfl, ok⟩, hx⟩ := hall k d hk
  simpa [byteL, flatL] using hx 0 _ rfl
theorem byte_at {l : List UInt8} (h : Sl byteL w (.slice A n c) l) {d : UInt8} (hk : l[k]? = some d) :
    ∃ b o, A = some ⟨b, o, none⟩ ∧ w.cell? ⟨b, o + k, none⟩ = some (.int .u8 d.toNat) := by
  obtain ⟨b, o, hA, hall⟩ := byte_all h (len_pos hk)
  exact ⟨b, o, hA, hall k d hk⟩
end

/-! ### Small words for walks -/
theorem ret_int {k : IntKind} {a b : Int} (h : a = b) : Ending.returned (.int k a) = .returned (.int k b) := by rw [h]
theorem ret_bool {a b : Bool} (h : a = b) : Ending.returned (.bool a) = .returned (.bool b) := by rw [h]

/-- An error's value: 0 is nil. -/
def errV (k : Int) : Value := if k = 0 then .nilIface else .iface 46 (.int .i64 k)
theorem errV_zero {k : Int} (h : k = 0) : errV k = .nilIface := by simp [errV, h]
theorem errV_some {k : Int} (h : k ≠ 0) : errV k = .iface 46 (.int .i64 k) := by simp [errV, h]
open Go

/-- Each quote twice. -/
def dbl : List UInt8 → List UInt8
  | [] => []
  | c :: l => if c = 39 then 39 :: 39 :: dbl l else c :: dbl l
theorem dbl_cons (c : UInt8) (l : List UInt8) : dbl (c :: l) = if c = 39 then 39 :: 39 :: dbl l else c :: dbl l := rfl
theorem dbl_append (a b : List UInt8) : dbl (a ++ b) = dbl a ++ dbl b := by
  induction a with
  | nil => rfl
  | cons c a ih =>
    show dbl (c :: (a ++ b)) = dbl (c :: a) ++ dbl b
    rw [dbl_cons, dbl_cons, ih]
    split <;> rfl
theorem dbl_none {a : List UInt8} (h : ∀ c ∈ a, c ≠ 39) : dbl a = a := by
  induction a with
  | nil => rfl
  | cons c a ih =>
    rw [dbl_cons, if_neg (h c (by simp)), ih fun x hx => h x (by simp [hx])]
theorem dbl_quote (l : List UInt8) : dbl (39 :: l) = 39 :: 39 :: dbl l := by
  rw [dbl_cons, if_pos rfl]
theorem dbl_len (l : List UInt8) : l.length ≤ (dbl l).length := by
  induction l with
  | nil => exact Nat.le_refl _
  | cons c l ih => rw [dbl_cons]; split <;> simp <;> omega
/-- A list has a first quote, or none. -/
theorem first_quote : ∀ l : List UInt8, (∀ c ∈ l, c ≠ 39) ∨ ∃ a r, l = a ++ 39 :: r ∧ ∀ c ∈ a, c ≠ 39
  | [] => .inl fun _ h => by cases h
  | c :: l => by
    by_cases hc : c = 39
    · exact .inr ⟨[], l, by rw [hc]; rfl, fun _ h => by cases h⟩
    · rcases first_quote l with h | ⟨a, r, rfl, h⟩
      · exact .inl fun x hx => by
          rcases List.mem_cons.1 hx with rfl | hx
          · exact hc
          · exact h x hx
      · exact .inr ⟨c :: a, r, rfl, fun x hx => by
          rcases List.mem_cons.1 hx with rfl | hx
          · exact hc
          · exact h x hx⟩
theorem occ_head_ne {s sub t : List UInt8} {i : Nat} (hs : sub = 39 :: t) (h : s[i]? ≠ some 39) : Lib.occAt s sub i = false := by
  cases hq : Lib.occAt s sub i with
  | false => rfl
  | true => exact absurd (Lib.occAt_head hs hq) h
theorem no_occ {a s t : List UInt8} (h : ∀ c ∈ a, c ≠ 39) : Lib.NoOcc (a ++ s) (39 :: t) a.length := fun j hj => by
  refine occ_head_ne rfl ?_
  rw [List.getElem?_append_left hj]
  intro e
  exact h _ (List.mem_of_getElem? e) rfl
theorem index_none_quote {a t : List UInt8} (h : ∀ c ∈ a, c ≠ 39) : Lib.index a (39 :: t) = -1 := by
  refine Lib.index_none fun j hj => occ_head_ne rfl ?_
  intro e
  exact h _ (List.mem_of_getElem? e) rfl
theorem index_quote1 {a r : List UInt8} (h : ∀ c ∈ a, c ≠ 39) : Lib.index (a ++ 39 :: r) [39] = a.length :=
  Lib.index_hit (no_occ h) (by simp) (by simp [Lib.occAt])
theorem index_quote2 {a r : List UInt8} (h : ∀ c ∈ a, c ≠ 39) : Lib.index (a ++ 39 :: 39 :: r) [39, 39] = a.length :=
  Lib.index_hit (no_occ h) (by simp) (by simp [Lib.occAt])
theorem drop_behind (a r : List UInt8) (c : UInt8) : (a ++ c :: r).drop (a.length + 1) = r := by simp
theorem drop_behind2 (a r : List UInt8) (c d : UInt8) : (a ++ c :: d :: r).drop (a.length + 2) = r := by simp
theorem doubled_k : ∀ (n : Nat) (s : List UInt8), s.length ≤ n → Lib.replaceK [39] [39, 39] (Lib.count s [39]) s = dbl s
  | n, s, hn => by
    rcases first_quote s with h | ⟨a, r, rfl, h⟩
    · rw [Lib.count_miss (index_none_quote h), dbl_none h]; rfl
    · cases n with
      | zero => simp at hn
      | succ n =>
        have hi := index_quote1 (r := r) h
        rw [Lib.count_hit (by simp) hi, Nat.add_comm, Lib.replaceK_hit _ _ _ _ _ hi]
        show (a ++ 39 :: r).take a.length ++ [39, 39] ++ Lib.replaceK [39] [39, 39] (Lib.count ((a ++ 39 :: r).drop (a.length + 1)) [39]) ((a ++ 39 :: r).drop (a.length + 1)) = _
        rw [drop_behind, doubled_k n r (by simp at hn; omega), List.take_left, dbl_append, dbl_none h, dbl_quote]
        simp
theorem replaceAll_eq {s old new : List UInt8} (hne : (old == new) = false) : Lib.replaceAll s old new = Lib.replaceK old new (Lib.count s old) s := by
  unfold Lib.replaceAll Lib.replace Lib.replaceNum
  rw [if_neg (by rw [hne]; simp), if_pos (.inl (by omega))]
/-- What the program doubles. -/
theorem doubled (s : List UInt8) : Lib.replaceAll s [39] [39, 39] = dbl s := by
  rw [replaceAll_eq (by decide), doubled_k s.length s (Nat.le_refl _)]
theorem halved_k : ∀ (n : Nat) (u : List UInt8), u.length ≤ n → Lib.replaceK [39, 39] [39] (Lib.count (dbl u) [39, 39]) (dbl u) = u
  | n, u, hn => by
    rcases first_quote u with h | ⟨a, r, rfl, h⟩
    · rw [dbl_none h, Lib.count_miss (index_none_quote h)]; rfl
    · cases n with
      | zero => simp at hn
      | succ n =>
        rw [dbl_append, dbl_none h, dbl_quote]
        have hi := index_quote2 (r := dbl r) h
        rw [Lib.count_hit (by simp) hi, Nat.add_comm, Lib.replaceK_hit _ _ _ _ _ hi]
        show (a ++ 39 :: 39 :: dbl r).take a.length ++ [39] ++ Lib.replaceK [39, 39] [39] (Lib.count ((a ++ 39 :: 39 :: dbl r).drop (a.length + 2)) [39, 39]) ((a ++ 39 :: 39 :: dbl r).drop (a.length + 2)) = _
        rw [drop_behind2, halved_k n r (by simp at hn; omega), List.take_left]
        simp
/-- What the program halves. -/
theorem halved (u : List UInt8) : Lib.replaceAll (dbl u) [39, 39] [39] = u := by
  rw [replaceAll_eq (by decide), halved_k u.length u (Nat.le_refl _)]

/-- What the reference reads: the number that digits spell, without a needless 0; none: it is no numeral. -/
def numL (l : List UInt8) (most : Nat) : Option Nat := if l = [] ∨ most < l.length ∨ (l.head? = some 48 ∧ 1 < l.length) then none else Lib.decFrom 0 l
theorem digitVal_of {u : Nat} (h : u < 10) : Lib.digitVal (UInt8.ofNat (48 + u)) = some u := by
  have e : (UInt8.ofNat (48 + u)).toNat = 48 + u := by
    rw [UInt8.toNat_ofNat']; omega
  unfold Lib.digitVal
  rw [e, if_pos ⟨by omega, by omega⟩]
  congr 1; omega
theorem decFrom_cons (acc : Nat) (b : UInt8) (l : List UInt8) : Lib.decFrom acc (b :: l) = (match Lib.digitVal b with | some d => Lib.decFrom (acc * 10 + d) l | none => none) := rfl
theorem decFrom_append : ∀ (l m : List UInt8) (acc : Nat), Lib.decFrom acc (l ++ m) = (Lib.decFrom acc l).bind fun a => Lib.decFrom a m
  | [], m, acc => rfl
  | b :: l, m, acc => by
    show Lib.decFrom acc (b :: (l ++ m)) = _
    rw [decFrom_cons, decFrom_cons]
    cases Lib.digitVal b with
    | none => rfl
    | some d => exact decFrom_append l m _
theorem decFrom_digits (u : Nat) : Lib.decFrom 0 (Lib.decDigits u) = some u := by
  induction u using Nat.strongRecOn with
  | ind u ih =>
    rw [Lib.decDigits]
    by_cases h : u < 10
    · rw [dif_pos h]
      show (match Lib.digitVal (UInt8.ofNat (48 + u)) with | some d => Lib.decFrom (0 * 10 + d) [] | none => none) = _
      rw [digitVal_of h]
      show some (0 * 10 + u) = some u
      congr 1; omega
    · rw [dif_neg h, decFrom_append, ih (u / 10) (by omega)]
      show (match Lib.digitVal (UInt8.ofNat (48 + u % 10)) with | some d => Lib.decFrom (u / 10 * 10 + d) [] | none => none) = _
      rw [digitVal_of (by omega)]
      show some (u / 10 * 10 + u % 10) = some u
      congr 1; omega
theorem decDigits_ne (u : Nat) : Lib.decDigits u ≠ [] := by
  intro h
  have := Lib.decDigits_length u
  rw [h] at this
  have := Lib.nDigits_pos u
  simp at *; omega
theorem decDigits_head (u : Nat) : ∃ d r, Lib.decDigits u = UInt8.ofNat (48 + d) :: r ∧ d < 10 ∧ (d = 0 → u = 0) ∧ (u < 10 → r = []) := by
  induction u using Nat.strongRecOn with
  | ind u ih =>
    rw [Lib.decDigits]
    by_cases h : u < 10
    · rw [dif_pos h]; exact ⟨u, [], rfl, h, fun h => h, fun _ => rfl⟩
    · rw [dif_neg h]
      obtain ⟨d, r, h1, h2, h3, _⟩ := ih (u / 10) (by omega)
      rw [h1]
      exact ⟨d, r ++ [UInt8.ofNat (48 + u % 10)], rfl, h2, fun e => by have := h3 e; omega, fun e => absurd e h⟩
theorem ofNat_ne {d : Nat} (h : d < 10) {c : UInt8} (hc : c.toNat < 48 ∨ 57 < c.toNat) : UInt8.ofNat (48 + d) ≠ c := by
  intro e
  have e2 : (UInt8.ofNat (48 + d)).toNat = 48 + d := by rw [UInt8.toNat_ofNat']; omega
  rw [e] at e2; omega
theorem ofNat_zero {d : Nat} (h : d < 10) : UInt8.ofNat (48 + d) = 48 ↔ d = 0 := by
  constructor
  · intro e
    have e2 : (UInt8.ofNat (48 + d)).toNat = 48 + d := by rw [UInt8.toNat_ofNat']; omega
    rw [e] at e2
    have : (48 : UInt8).toNat = 48 := rfl
    omega
  · intro e; subst e; rfl
/-- Digits behind a first one that is no 0 are the number's own. -/
theorem digits_decFrom : ∀ (l : List UInt8) (acc n : Nat), acc ≠ 0 → Lib.decFrom acc l = some n → Lib.decDigits acc ++ l = Lib.decDigits n
  | [], acc, n, _, h => by
    obtain rfl := Option.some.inj h
    simp
  | b :: l, acc, n, h0, h => by
    rw [decFrom_cons] at h
    cases hd : Lib.digitVal b with
    | none => rw [hd] at h; cases h
    | some d =>
      rw [hd] at h
      have h : Lib.decFrom (acc * 10 + d) l = some n := h
      obtain ⟨d1, d2, d3⟩ := Lib.digitVal_eq hd
      have ih := digits_decFrom l (acc * 10 + d) n (by omega) h
      rw [← ih]
      have hb : b = UInt8.ofNat (48 + d) := by
        apply UInt8.toNat_inj.1
        rw [UInt8.toNat_ofNat']; omega
      rw [Lib.decDigits.eq_1 (acc * 10 + d), dif_neg (by omega)]
      have e1 : (acc * 10 + d) / 10 = acc := by omega
      have e2 : (acc * 10 + d) % 10 = d := by omega
      rw [e1, e2, ← hb]
      simp
theorem digits_of {l : List UInt8} {n : Nat} (h1 : l ≠ []) (h2 : ¬ (l.head? = some 48 ∧ 1 < l.length)) (h : Lib.decFrom 0 l = some n) : l = Lib.decDigits n := by
  cases l with
  | nil => exact absurd rfl h1
  | cons b l =>
    rw [decFrom_cons] at h
    cases hd : Lib.digitVal b with
    | none => rw [hd] at h; cases h
    | some d =>
      rw [hd] at h
      have h : Lib.decFrom (0 * 10 + d) l = some n := h
      obtain ⟨d1, d2, d3⟩ := Lib.digitVal_eq hd
      have hb : b = UInt8.ofNat (48 + d) := by
        apply UInt8.toNat_inj.1
        rw [UInt8.toNat_ofNat']; omega
      rw [show 0 * 10 + d = d by omega] at h
      by_cases hd0 : d = 0
      · cases l with
        | nil =>
          obtain rfl := Option.some.inj h
          rw [hb, Lib.decDigits_one (by omega)]
        | cons c l => exact absurd ⟨by rw [hb, hd0]; rfl, by simp⟩ h2
      · rw [← digits_decFrom l d n hd0 h, Lib.decDigits_one (by omega), hb]; rfl
/-- The numerals, just. -/
theorem numL_iff {l : List UInt8} {most n : Nat} : numL l most = some n ↔ l = Lib.decDigits n ∧ l.length ≤ most := by
  unfold numL
  constructor
  · intro h
    split at h
    · cases h
    · rename_i hc
      have h1 : l ≠ [] := fun e => hc (.inl e)
      have h2 : ¬ (l.head? = some 48 ∧ 1 < l.length) := fun e => hc (.inr (.inr e))
      exact ⟨digits_of h1 h2 h, by have : ¬ most < l.length := fun e => hc (.inr (.inl e)); omega⟩
  · rintro ⟨rfl, hl⟩
    rw [if_neg, decFrom_digits]
    rintro (h | h | ⟨h, h'⟩)
    · exact decDigits_ne n h
    · omega
    · obtain ⟨d, r, e, hd, hz, hr⟩ := decDigits_head n
      rw [e] at h h'
      have := (ofNat_zero hd).1 (Option.some.inj h)
      have := hz this
      rw [hr (by omega)] at h'
      simp at h'
/-- What the program reads of a text: the number that it writes so, of at most nine digits. -/
def intL9 (l : List UInt8) : Option Int :=
  if l.head? = some 45 ∧ 1 < l.length then (match numL l.tail 9 with | some u => if u = 0 then none else some (-(u : Int)) | none => none)
  else (numL l 9).map fun (u : Nat) => (u : Int)
theorem itoa_nat (u : Nat) : Lib.itoa (u : Int) = Lib.decDigits u := by
  unfold Lib.itoa
  rw [if_neg (by omega)]; simp
theorem itoa_neg {u : Nat} (h : u ≠ 0) : Lib.itoa (-(u : Int)) = 45 :: Lib.decDigits u := by
  unfold Lib.itoa
  rw [if_pos (by omega)]; simp
theorem itoa_cases (n : Int) : (∃ u : Nat, n = u ∧ Lib.itoa n = Lib.decDigits u) ∨ (∃ u : Nat, u ≠ 0 ∧ n = -(u : Int) ∧ Lib.itoa n = 45 :: Lib.decDigits u) := by
  by_cases h : n < 0
  · have hu : n = -((n.natAbs : Nat) : Int) := by omega
    exact .inr ⟨n.natAbs, by omega, hu, by have := itoa_neg (u := n.natAbs) (by omega); rw [← hu] at this; exact this⟩
  · have hu : n = ((n.toNat : Nat) : Int) := by omega
    exact .inl ⟨n.toNat, hu, by have := itoa_nat n.toNat; rw [← hu] at this; exact this⟩
theorem digits_head45 (u : Nat) : (Lib.decDigits u).head? ≠ some 45 := by
  obtain ⟨d, r, e, hd, _⟩ := decDigits_head u
  rw [e]
  intro h
  exact ofNat_ne hd (c := 45) (.inl (by decide)) (Option.some.inj h)
theorem digits_trim (u : Nat) : Lib.trimPrefix (Lib.decDigits u) [45] = Lib.decDigits u := by
  unfold Lib.trimPrefix Lib.hasPrefix
  obtain ⟨d, r, e, hd, _⟩ := decDigits_head u
  rw [e]
  have : ([45] : List UInt8).isPrefixOf (UInt8.ofNat (48 + d) :: r) = false := by
    simp only [List.isPrefixOf, Bool.and_true]
    rw [beq_eq_false_iff_ne]
    exact fun h => ofNat_ne hd (c := 45) (.inl (by decide)) h.symm
  rw [this]; simp
theorem minus_trim (l : List UInt8) : Lib.trimPrefix (45 :: l) [45] = l := by
  unfold Lib.trimPrefix Lib.hasPrefix
  simp [List.isPrefixOf]
/-- The text is the number's own, and not too long, just when it is read. -/
theorem intL9_iff {l : List UInt8} {n : Int} : intL9 l = some n ↔ Lib.itoa n = l ∧ (Lib.trimPrefix l [45]).length ≤ 9 := by
  constructor
  · intro h
    unfold intL9 at h
    split at h
    · rename_i hc
      cases l with
      | nil => simp at hc
      | cons c r =>
        have hc45 : c = 45 := Option.some.inj hc.1
        subst hc45
        show Lib.itoa n = 45 :: r ∧ _
        have h : (match numL r 9 with | some u => if u = 0 then none else some (-(u : Int)) | none => none) = some n := h
        cases hn : numL r 9 with
        | none => rw [hn] at h; cases h
        | some u =>
          rw [hn] at h
          obtain ⟨h1, h2⟩ := numL_iff.1 hn
          by_cases hu : u = 0
          · simp [hu] at h
          · simp only [if_neg hu] at h
            obtain rfl := Option.some.inj h
            rw [itoa_neg hu, ← h1, minus_trim]; exact ⟨rfl, h2⟩
    · cases hn : numL l 9 with
      | none => rw [hn] at h; cases h
      | some u =>
        rw [hn] at h
        obtain rfl := Option.some.inj h
        obtain ⟨h1, h2⟩ := numL_iff.1 hn
        rw [itoa_nat, h1, digits_trim, ← h1]; exact ⟨rfl, h2⟩
  · rintro ⟨rfl, hl⟩
    rcases itoa_cases n with ⟨u, rfl, e⟩ | ⟨u, hu, rfl, e⟩
    · rw [e] at hl ⊢
      rw [digits_trim] at hl
      unfold intL9
      rw [if_neg (fun h => digits_head45 u h.1), numL_iff.2 ⟨rfl, hl⟩]; rfl
    · rw [e] at hl ⊢
      rw [minus_trim] at hl
      have hne := decDigits_ne u
      unfold intL9
      rw [if_pos ⟨rfl, by cases h : Lib.decDigits u with | nil => exact absurd h hne | cons _ _ => simp⟩]
      show (match numL (Lib.decDigits u) 9 with | some u => if u = 0 then none else some (-(u : Int)) | none => none) = _
      rw [numL_iff.2 ⟨rfl, hl⟩]
      simp only [if_neg hu]
theorem decNat_digits (u : Nat) : Lib.decNat (Lib.decDigits u) = some u := by
  unfold Lib.decNat
  rw [if_neg, decFrom_digits]
  rw [List.isEmpty_iff]
  exact decDigits_ne u
/-- What Atoi reads of a number's own text. -/
theorem atoi_itoa {n : Int} (hl : (Lib.itoa n).length ≤ 18) : Lib.atoiAll (Lib.itoa n) = .ok n := by
  rcases itoa_cases n with ⟨u, rfl, e⟩ | ⟨u, hu, rfl, e⟩
  · rw [e] at hl ⊢
    obtain ⟨d, r, e2, hd, _⟩ := decDigits_head u
    have h1 := Lib.signless_short hl
    rw [decNat_digits] at h1
    rw [e2] at h1 ⊢
    have hv : (UInt8.ofNat (48 + d)).toNat = 48 + d := by rw [UInt8.toNat_ofNat']; omega
    rw [Lib.atoiAll_plain _ _ (by omega) (by omega), h1]; rfl
  · rw [e] at hl ⊢
    have h1 := Lib.signed_short (l := Lib.decDigits u) (by simp at hl; omega)
    rw [decNat_digits] at h1
    rw [Lib.atoiAll_minus, h1]; rfl
end Go.Proofs.YtakidgndipnciaaDoor
