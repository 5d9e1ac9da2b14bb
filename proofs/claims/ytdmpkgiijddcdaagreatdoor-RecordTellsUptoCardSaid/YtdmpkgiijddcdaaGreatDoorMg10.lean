/- Parts: VtN, Qr, KinA, KinB, KinC, KinD, Eqs, VtV, TxW, VtT, VtC. -/
import Derived.Test.YtdmpkgiijddcdaaGreatDoorMg01
import Derived.Lib.ItoaLen
import Derived.Lib.AtoiTie
import Derived.Lib.Strings
import Derived.Sort.BigQuietIn
import Derived.Maps.OwnIn
import Derived.Maps.Views
import Derived.StringKeys
import Derived.Test.YtdmpkgiijddcdaaGreatDoorRows
import Derived.RangeFuncNested
import Derived.RangeFuncBound
import Derived.RangeFuncCalls
import Derived.RangeFuncLeaves
import Derived.RangeFuncBox
import Derived.RangeFuncWrites
import Derived.Shelf.Abstract
import Derived.OwnWalkIn
import Derived.TacticsInMore
import Derived.LoopNIn
import Derived.LoopIn
import Derived.Test.YtdmpkgiijddcdaaGreatDoorMg03
import Derived.Laws.StructEq
import Derived.Test.YtdmpkgiijddcdaaGreatDoorMg09
import Derived.Test.YtdmpkgiijddcdaaGreatDoorMg05
import Derived.Test.YtdmpkgiijddcdaaGreatDoorMg04
import Derived.Test.YtdmpkgiijddcdaaGreatDoorMg07
import Derived.Test.YtdmpkgiijddcdaaGreatDoorMg06
import Derived.Lib.Join
import Derived.Lib.Split
import Derived.Lib.CutLaws
/- Plain: decimal numerals: written, and read. No condition. -/
namespace Go.Proofs.YtdmpkgiijddcdaaGreatDoor
open Go

/-- What the reference reads: the number that digits spell, without a needless 0; none: it is no numeral. -/
def numL (l : List UInt8) (most : Nat) : Option Nat := if l = [] ∨ most < l.length ∨ (l.head? = some 48 ∧ 1 < l.length) then none else Lib.decFrom 0 l
theorem digitVal_of {u : Nat} (h : u < 10) : Lib.digitVal (UInt8.ofNat (48 + u)) = some u := by
  have e : (UInt8.ofNat (48 + u)).toNat = 48 + u := by
    rw [UInt8.toNat_ofNat']; omega
  unfold Lib.digitVal
  rw [e, if_pos ⟨by omega, by omega⟩]
  congr 1; omega
theorem decFrom_cons (acc : Nat) (b : UInt8) (l : List UInt8) : Lib.decFrom acc (b :: l) = (match Lib.digitVal b with | some d => Lib.decFrom (acc * 10 + d) l | none => none) := rfl
theorem decFrom_append : ∀ (l m : List UInt8) (acc : Nat), Lib.decFrom acc (l ++ m) = (Lib.decFrom acc l).bind fun a => Lib.decFrom a m
  | [], m, acc => rfl
  | b :: l, m, acc => by
    show Lib.decFrom acc (b :: (l ++ m)) = _
    rw [decFrom_cons, decFrom_cons]
    cases Lib.digitVal b with
    | none => rfl
    | some d => exact decFrom_append l m _
theorem decFrom_digits (u : Nat) : Lib.decFrom 0 (Lib.decDigits u) = some u := by
  induction u using Nat.strongRecOn with
  | ind u ih =>
    rw [Lib.decDigits]
    by_cases h : u < 10
    · rw [dif_pos h]
      show (match Lib.digitVal (UInt8.ofNat (48 + u)) with | some d => Lib.decFrom (0 * 10 + d) [] | none => none) = _
      rw [digitVal_of h]
      show some (0 * 10 + u) = some u
      congr 1; omega
    · rw [dif_neg h, decFrom_append, ih (u / 10) (by omega)]
      show (match Lib.digitVal (UInt8.ofNat (48 + u % 10)) with | some d => Lib.decFrom (u / 10 * 10 + d) [] | none => none) = _
      rw [digitVal_of (by omega)]
      show some (u / 10 * 10 + u % 10) = some u
      congr 1; omega
theorem decDigits_ne (u : Nat) : Lib.decDigits u ≠ [] := by
  intro h
  have := Lib.decDigits_length u
  rw [h] at this
  have := Lib.nDigits_pos u
  simp at *; omega
theorem decDigits_head (u : Nat) : ∃ d r, Lib.decDigits u = UInt8.ofNat (48 + d) :: r ∧ d < 10 ∧ (d = 0 → u = 0) ∧ (u < 10 → r = []) := by
  induction u using Nat.strongRecOn with
  | ind u ih =>
    rw [Lib.decDigits]
    by_cases h : u < 10
    · rw [dif_pos h]; exact ⟨u, [], rfl, h, fun h => h, fun _ => rfl⟩
    · rw [dif_neg h]
      obtain ⟨d, r, h1, h2, h3, _⟩ := ih (u / 10) (by omega)
      rw [h1]
      exact ⟨d, r ++ [UInt8.ofNat (48 + u % 10)], rfl, h2, fun e => by have := h3 e; omega, fun e => absurd e h⟩
theorem ofNat_ne {d : Nat} (h : d < 10) {c : UInt8} (hc : c.toNat < 48 ∨ 57 < c.toNat) : UInt8.ofNat (48 + d) ≠ c := by
  intro e
  have e2 : (UInt8.ofNat (48 + d)).toNat = 48 + d := by rw [UInt8.toNat_ofNat']; omega
  rw [e] at e2; omega
theorem ofNat_zero {d : Nat} (h : d < 10) : UInt8.ofNat (48 + d) = 48 ↔ d = 0 := by
  constructor
  · intro e
    have e2 : (UInt8.ofNat (48 + d)).toNat = 48 + d := by rw [UInt8.toNat_ofNat']; omega
    rw [e] at e2
    have : (48 : UInt8).toNat = 48 := rfl
    omega
  · intro e; subst e; rfl
/-- Digits behind a first one that is no 0 are the number's own. -/
theorem digits_decFrom : ∀ (l : List UInt8) (acc n : Nat), acc ≠ 0 → Lib.decFrom acc l = some n → Lib.decDigits acc ++ l = Lib.decDigits n
  | [], acc, n, _, h => by
    obtain rfl := Option.some.inj h
    simp
  | b :: l, acc, n, h0, h => by
    rw [decFrom_cons] at h
    cases hd : Lib.digitVal b with
    | none => rw [hd] at h; cases h
    | some d =>
      rw [hd] at h
      have h : Lib.decFrom (acc * 10 + d) l = some n := h
      obtain ⟨d1, d2, d3⟩ := Lib.digitVal_eq hd
      have ih := digits_decFrom l (acc * 10 + d) n (by omega) h
      rw [← ih]
      have hb : b = UInt8.ofNat (48 + d) := by
        apply UInt8.toNat_inj.1
        rw [UInt8.toNat_ofNat']; omega
      rw [Lib.decDigits.eq_1 (acc * 10 + d), dif_neg (by omega)]
      have e1 : (acc * 10 + d) / 10 = acc := by omega
      have e2 : (acc * 10 + d) % 10 = d := by omega
      rw [e1, e2, ← hb]
      simp
theorem digits_of {l : List UInt8} {n : Nat} (h1 : l ≠ []) (h2 : ¬ (l.head? = some 48 ∧ 1 < l.length)) (h : Lib.decFrom 0 l = some n) : l = Lib.decDigits n := by
  cases l with
  | nil => exact absurd rfl h1
  | cons b l =>
    rw [decFrom_cons] at h
    cases hd : Lib.digitVal b with
    | none => rw [hd] at h; cases h
    | some d =>
      rw [hd] at h
      have h : Lib.decFrom (0 * 10 + d) l = some n := h
      obtain ⟨d1, d2, d3⟩ := Lib.digitVal_eq hd
      have hb : b = UInt8.ofNat (48 + d) := by
        apply UInt8.toNat_inj.1
        rw [UInt8.toNat_ofNat']; omega
      rw [show 0 * 10 + d = d by omega] at h
      by_cases hd0 : d = 0
      · cases l with
        | nil =>
          obtain rfl := Option.some.inj h
          rw [hb, Lib.decDigits_one (by omega)]
        | cons c l => exact absurd ⟨by rw [hb, hd0]; rfl, by simp⟩ h2
      · rw [← digits_decFrom l d n hd0 h, Lib.decDigits_one (by omega), hb]; rfl
/-- The numerals, just. -/
theorem numL_iff {l : List UInt8} {most n : Nat} : numL l most = some n ↔ l = Lib.decDigits n ∧ l.length ≤ most := by
  unfold numL
  constructor
  · intro h
    split at h
    · cases h
    · rename_i hc
      have h1 : l ≠ [] := fun e => hc (.inl e)
      have h2 : ¬ (l.head? = some 48 ∧ 1 < l.length) := fun e => hc (.inr (.inr e))
      exact ⟨digits_of h1 h2 h, by have : ¬ most < l.length := fun e => hc (.inr (.inl e)); omega⟩
  · rintro ⟨rfl, hl⟩
    rw [if_neg, decFrom_digits]
    rintro (h | h | ⟨h, h'⟩)
    · exact decDigits_ne n h
    · omega
    · obtain ⟨d, r, e, hd, hz, hr⟩ := decDigits_head n
      rw [e] at h h'
      have := (ofNat_zero hd).1 (Option.some.inj h)
      have := hz this
      rw [hr (by omega)] at h'
      simp at h'
/-- What the program reads of a text: the number that it writes so, of at most nine digits. -/
def intL9 (l : List UInt8) : Option Int :=
  if l.head? = some 45 ∧ 1 < l.length then (match numL l.tail 9 with | some u => if u = 0 then none else some (-(u : Int)) | none => none)
  else (numL l 9).map fun (u : Nat) => (u : Int)
theorem itoa_nat (u : Nat) : Lib.itoa (u : Int) = Lib.decDigits u := by
  unfold Lib.itoa
  rw [if_neg (by omega)]; simp
theorem itoa_neg {u : Nat} (h : u ≠ 0) : Lib.itoa (-(u : Int)) = 45 :: Lib.decDigits u := by
  unfold Lib.itoa
  rw [if_pos (by omega)]; simp
theorem itoa_cases (n : Int) : (∃ u : Nat, n = u ∧ Lib.itoa n = Lib.decDigits u) ∨ (∃ u : Nat, u ≠ 0 ∧ n = -(u : Int) ∧ Lib.itoa n = 45 :: Lib.decDigits u) := by
  by_cases h : n < 0
  · have hu : n = -((n.natAbs : Nat) : Int) := by omega
    exact .inr ⟨n.natAbs, by omega, hu, by have := itoa_neg (u := n.natAbs) (by omega); rw [← hu] at this; exact this⟩
  · have hu : n = ((n.toNat : Nat) : Int) := by omega
    exact .inl ⟨n.toNat, hu, by have := itoa_nat n.toNat; rw [← hu] at this; exact this⟩
theorem digits_head45 (u : Nat) : (Lib.decDigits u).head? ≠ some 45 := by
  obtain ⟨d, r, e, hd, _⟩ := decDigits_head u
  rw [e]
  intro h
  exact ofNat_ne hd (c := 45) (.inl (by decide)) (Option.some.inj h)
theorem digits_trim (u : Nat) : Lib.trimPrefix (Lib.decDigits u) [45] = Lib.decDigits u := by
  unfold Lib.trimPrefix Lib.hasPrefix
  obtain ⟨d, r, e, hd, _⟩ := decDigits_head u
  rw [e]
  have : ([45] : List UInt8).isPrefixOf (UInt8.ofNat (48 + d) :: r) = false := by
    simp only [List.isPrefixOf, Bool.and_true]
    rw [beq_eq_false_iff_ne]
    exact fun h => ofNat_ne hd (c := 45) (.inl (by decide)) h.symm
  rw [this]; simp
theorem minus_trim (l : List UInt8) : Lib.trimPrefix (45 :: l) [45] = l := by
  unfold Lib.trimPrefix Lib.hasPrefix
  simp [List.isPrefixOf]
/-- The text is the number's own, and not too long, just when it is read. -/
theorem intL9_iff {l : List UInt8} {n : Int} : intL9 l = some n ↔ Lib.itoa n = l ∧ (Lib.trimPrefix l [45]).length ≤ 9 := by
  constructor
  · intro h
    unfold intL9 at h
    split at h
    · rename_i hc
      cases l with
      | nil => simp at hc
      | cons c r =>
        have hc45 : c = 45 := Option.some.inj hc.1
        subst hc45
        show Lib.itoa n = 45 :: r ∧ _
        have h : (match numL r 9 with | some u => if u = 0 then none else some (-(u : Int)) | none => none) = some n := h
        cases hn : numL r 9 with
        | none => rw [hn] at h; cases h
        | some u =>
          rw [hn] at h
          obtain ⟨h1, h2⟩ := numL_iff.1 hn
          by_cases hu : u = 0
          · simp [hu] at h
          · simp only [if_neg hu] at h
            obtain rfl := Option.some.inj h
            rw [itoa_neg hu, ← h1, minus_trim]; exact ⟨rfl, h2⟩
    · cases hn : numL l 9 with
      | none => rw [hn] at h; cases h
      | some u =>
        rw [hn] at h
        obtain rfl := Option.some.inj h
        obtain ⟨h1, h2⟩ := numL_iff.1 hn
        rw [itoa_nat, h1, digits_trim, ← h1]; exact ⟨rfl, h2⟩
  · rintro ⟨rfl, hl⟩
    rcases itoa_cases n with ⟨u, rfl, e⟩ | ⟨u, hu, rfl, e⟩
    · rw [e] at hl ⊢
      rw [digits_trim] at hl
      unfold intL9
      rw [if_neg (fun h => digits_head45 u h.1), numL_iff.2 ⟨rfl, hl⟩]; rfl
    · rw [e] at hl ⊢
      rw [minus_trim] at hl
      have hne := decDigits_ne u
      unfold intL9
      rw [if_pos ⟨rfl, by cases h : Lib.decDigits u with | nil => exact absurd h hne | cons _ _ => simp⟩]
      show (match numL (Lib.decDigits u) 9 with | some u => if u = 0 then none else some (-(u : Int)) | none => none) = _
      rw [numL_iff.2 ⟨rfl, hl⟩]
      simp only [if_neg hu]
theorem decNat_digits (u : Nat) : Lib.decNat (Lib.decDigits u) = some u := by
  unfold Lib.decNat
  rw [if_neg, decFrom_digits]
  rw [List.isEmpty_iff]
  exact decDigits_ne u
/-- What Atoi reads of a number's own text. -/
theorem atoi_itoa {n : Int} (hl : (Lib.itoa n).length ≤ 18) : Lib.atoiAll (Lib.itoa n) = .ok n := by
  rcases itoa_cases n with ⟨u, rfl, e⟩ | ⟨u, hu, rfl, e⟩
  · rw [e] at hl ⊢
    obtain ⟨d, r, e2, hd, _⟩ := decDigits_head u
    have h1 := Lib.signless_short hl
    rw [decNat_digits] at h1
    rw [e2] at h1 ⊢
    have hv : (UInt8.ofNat (48 + d)).toNat = 48 + d := by rw [UInt8.toNat_ofNat']; omega
    rw [Lib.atoiAll_plain _ _ (by omega) (by omega), h1]; rfl
  · rw [e] at hl ⊢
    have h1 := Lib.signed_short (l := Lib.decDigits u) (by simp at hl; omega)
    rw [decNat_digits] at h1
    rw [Lib.atoiAll_minus, h1]; rfl
open Go Go.RowKit Go.BigFrame

section
variable {F : Fence} {n : Nat} {P : Program} {ops : Array Oper} {md : Region.Mode} {C : World → Prop}
end
open Go Go.RowKit
open Go.Maps (Keyed)

/-! ### Kin -/
/-- What comes of a kind is looked at once more: whoever it comes of. -/
def kinStep (S : ByteArray → Bool) (k : Knd) : ByteArray → Bool := if S k.name = true then fun s => S s || k.ofs.any (fun o => decide (o = s)) else S
def kinSet (l : List Knd) (name : ByteArray) : ByteArray → Bool := l.foldr (fun k S => kinStep S k) (fun s => decide (name = s))
def kinL (l : List Knd) (name : ByteArray) : List ByteArray := (l.filter fun k => kinSet l name k.name).map (·.name)

/-! ### A set of texts in memory -/
open Go Go.RowKit Go.Shelf

attribute [local go_sem] Oper.semAt_some


attribute [local go_sem] Oper.semAt_some

theorem str_info : (Tryz.prog.info? 9).map (fun i => (i.zero, i.size, i.bytes)) = some (some (.string .empty), 1, 16) := by kernel_rfl

open Go.RowKit

theorem bytes_beq (a b : ByteArray) : (a.toList == b.toList) = decide (a = b) := by
  rw [Bool.eq_iff_iff, beq_iff_eq, decide_eq_true_eq]
  constructor
  · intro h
    rw [ByteArray.toList_eq, ByteArray.toList_eq] at h
    have := Array.toList_inj.1 h
    cases a; cases b; simp at this; rw [this]
  · intro h; rw [h]

/-! ### kind.Find -/
/-- Where a kind of a name is. -/
def kFind (l : List Knd) (name : ByteArray) : Int := idxI (fun k => decide (k.name = name)) l

theorem bytes_eq (a b : ByteArray) : (a.toList = b.toList) = (a = b) := by
  have := bytes_beq a b
  apply propext
  constructor
  · intro h; rw [h] at this; simpa using this.symm
  · intro h; rw [h]

def bs (l : List UInt8) : ByteArray := ⟨l.toArray⟩
theorem bs_list (l : List UInt8) : (bs l).data.toList = l := by simp [bs]
theorem bs_size (l : List UInt8) : (bs l).size = l.length := by simp [bs, ByteArray.size]
theorem bs_of (s : ByteArray) : bs s.data.toList = s := by cases s; simp [bs]
theorem bs_append (a b : List UInt8) : bs a ++ bs b = bs (a ++ b) := by
  apply ByteArray.ext
  simp [bs]
def trueL : List UInt8 := [116, 114, 117, 101]
def falseL : List UInt8 := [102, 97, 108, 115, 101]
/-- A value that is right, as text. -/
def showL (v : Val) : List UInt8 := if v.ty = 1 then Lib.itoa v.n else if v.ty = 2 then (if v.n = 1 then trueL else falseL) else 39 :: (dbl v.s.data.toList ++ [39])
/-- What stands between quotes. -/
def bodyL (l : List UInt8) : List UInt8 := Lib.replaceAll ((l.drop 1).take (l.length - 2)) [39, 39] [39]
def quotB (l : List UInt8) : Bool := decide (2 ≤ l.length) && decide (l = 39 :: (dbl (bodyL l) ++ [39])) && !(bodyL l).any strC
/-- A text as a value: the fault; the value. -/
def readE (l : List UInt8) : Int :=
  if l = falseL ∨ l = trueL then 0
  else if l.head? = some 39 then (if quotB l = true then (if 20 < (bodyL l).length then 4 else 0) else 2)
  else match intL9 l with
    | some n => if n < -1000000 ∨ 1000000 < n then 1 else 0
    | none => 2
def readV (l : List UInt8) : Val :=
  if readE l ≠ 0 then ⟨0, 0, .empty⟩
  else if l = falseL then ⟨2, 0, .empty⟩ else if l = trueL then ⟨2, 1, .empty⟩
  else if l.head? = some 39 then ⟨3, 0, bs (bodyL l)⟩
  else match intL9 l with
    | some n => ⟨1, n, .empty⟩
    | none => ⟨0, 0, .empty⟩
theorem body_of (u : List UInt8) : bodyL (39 :: (dbl u ++ [39])) = u := by
  unfold bodyL
  have e : ((39 :: (dbl u ++ [39])).drop 1).take ((39 :: (dbl u ++ [39])).length - 2) = dbl u := by
    simp
  rw [e, halved]
theorem quot_of {u : List UInt8} (h : u.any strC = false) : quotB (39 :: (dbl u ++ [39])) = true := by
  unfold quotB
  rw [body_of, h]
  simp
/-- A text in quotes is one text's, doubled. -/
theorem quot_iff {l : List UInt8} : quotB l = true ↔ ∃ u, l = 39 :: (dbl u ++ [39]) ∧ u.any strC = false := by
  constructor
  · intro h
    unfold quotB at h
    simp only [Bool.and_eq_true, decide_eq_true_eq, Bool.not_eq_true'] at h
    exact ⟨_, h.1.2, h.2⟩
  · rintro ⟨u, rfl, h⟩; exact quot_of h
theorem empty_list : ByteArray.empty.toList = [] := by decide +kernel
theorem empty_iff (s : ByteArray) : s.toList.isEmpty = true ↔ s = .empty := by
  rw [List.isEmpty_iff]
  constructor
  · intro h
    rw [← bytes_eq, h, empty_list]
  · rintro rfl; exact empty_list
theorem val_parts {v : Val} (h : valE v = 0) : (v.ty = 1 ∧ -1000000 ≤ v.n ∧ v.n ≤ 1000000 ∧ v.s = .empty) ∨ (v.ty = 2 ∧ (v.n = 0 ∨ v.n = 1) ∧ v.s = .empty) ∨ (v.ty = 3 ∧ v.n = 0 ∧ v.s.size ≤ 20 ∧ v.s.data.toList.any strC = false) := by
  unfold valE at h
  split at h
  · rename_i ht
    split at h
    · cases h
    · rename_i hn
      split at h
      · cases h
      · rename_i hs
        split at h
        · cases h
        · rename_i hc
          have hsE : v.ty ≠ 3 → v.s = .empty := fun h3 => by
            rw [← empty_iff]
            cases hq : v.s.toList.isEmpty with
            | true => rfl
            | false => exact absurd (.inr ⟨h3, hq⟩) hc
          rcases ht with h1 | h1 | h1
          · left
            rw [h1] at hn
            unfold valLo valHi at hn
            simp at hn
            exact ⟨h1, by omega, by omega, hsE (by omega)⟩
          · right; left
            rw [h1] at hn
            unfold valLo valHi at hn
            simp at hn
            exact ⟨h1, by omega, hsE (by omega)⟩
          · right; right
            rw [h1] at hn
            unfold valLo valHi at hn
            simp at hn
            refine ⟨h1, by omega, ?_, ?_⟩
            · have : ¬ (20 < v.s.size) := fun e => hs ⟨h1, e⟩
              omega
            · cases hq : v.s.data.toList.any strC with
              | false => rfl
              | true => exact absurd (.inl hq) hc
  · cases h
/-- At most seven digits. -/
theorem itoa_small {n : Int} (h1 : -1000000 ≤ n) (h2 : n ≤ 1000000) : (Lib.trimPrefix (Lib.itoa n) [45]).length ≤ 9 ∧ (Lib.itoa n).length ≤ 10 := by
  have hd : ∀ u, u ≤ 1000000 → (Lib.decDigits u).length ≤ 7 := fun u hu => by
    rw [Lib.decDigits_length]
    rcases Nat.lt_or_ge (Lib.nDigits u) 8 with h | h
    · omega
    · have e : Lib.nDigits u ≤ 7 := by
        by_cases h7 : u < 10 ^ 6
        · by_cases h0 : u < 10
          · rw [Lib.nDigits_small h0]; omega
          · rcases Nat.lt_or_ge u (10 ^ 2) with a | a
            · rw [Lib.nDigits_unique 1 u (by omega) a]; omega
            · rcases Nat.lt_or_ge u (10 ^ 3) with a2 | a2
              · rw [Lib.nDigits_unique 2 u a a2]; omega
              · rcases Nat.lt_or_ge u (10 ^ 4) with a3 | a3
                · rw [Lib.nDigits_unique 3 u a2 a3]; omega
                · rcases Nat.lt_or_ge u (10 ^ 5) with a4 | a4
                  · rw [Lib.nDigits_unique 4 u a3 a4]; omega
                  · rw [Lib.nDigits_unique 5 u a4 h7]; omega
        · rw [Lib.nDigits_unique 6 u (by omega) (by have : (10 : Nat) ^ 7 = 10000000 := by decide
                                                    omega)]; omega
      omega
  rcases itoa_cases n with ⟨u, hu, e⟩ | ⟨u, _, hu, e⟩
  · have := hd u (by omega)
    rw [e, digits_trim]; exact ⟨by omega, by omega⟩
  · have := hd u (by omega)
    rw [e, minus_trim]; exact ⟨by omega, by simp; omega⟩
theorem show_text {v : Val} (h : v.ty = 3) : showL v = 39 :: (dbl v.s.data.toList ++ [39]) := by
  unfold showL; rw [if_neg (by omega), if_neg (by omega)]
/-- What is read is right, and shown as it was. -/
theorem show_read {l : List UInt8} (h : readE l = 0) : valE (readV l) = 0 ∧ showL (readV l) = l := by
  have hnE : ¬ readE l ≠ 0 := fun e => e h
  have hemp : ByteArray.empty.data.toList.any strC = false := rfl
  by_cases h1 : l = falseL
  · subst h1
    have e : readV falseL = ⟨2, 0, .empty⟩ := by unfold readV; rw [if_neg hnE, if_pos rfl]
    rw [e]; exact ⟨by decide +kernel, rfl⟩
  by_cases h2 : l = trueL
  · subst h2
    have e : readV trueL = ⟨2, 1, .empty⟩ := by unfold readV; rw [if_neg hnE, if_neg h1, if_pos rfl]
    rw [e]; exact ⟨by decide +kernel, rfl⟩
  by_cases h3 : l.head? = some 39
  · have e : readV l = ⟨3, 0, bs (bodyL l)⟩ := by unfold readV; rw [if_neg hnE, if_neg h1, if_neg h2, if_pos h3]
    unfold readE at h
    rw [if_neg (fun h => h.elim h1 h2), if_pos h3] at h
    cases hq : quotB l with
    | false => rw [hq] at h; simp at h
    | true =>
      rw [hq, if_pos rfl] at h
      have hlen : ¬ 20 < (bodyL l).length := fun e => by rw [if_pos e] at h; cases h
      unfold quotB at hq
      simp only [Bool.and_eq_true, decide_eq_true_eq, Bool.not_eq_true'] at hq
      rw [e]
      constructor
      · unfold valE valLo valHi
        simp only [bs_size, bs_list]
        rw [hq.2]
        simp
        omega
      · rw [show_text rfl]
        show 39 :: (dbl (bs (bodyL l)).data.toList ++ [39]) = l
        rw [bs_list]; exact hq.1.2.symm
  · unfold readE at h
    rw [if_neg (fun h => h.elim h1 h2), if_neg h3] at h
    cases hi : intL9 l with
    | none => rw [hi] at h; cases h
    | some n =>
      rw [hi] at h
      have h : (if n < -1000000 ∨ 1000000 < n then (1 : Int) else 0) = 0 := h
      have hn : ¬ (n < -1000000 ∨ 1000000 < n) := fun e => by rw [if_pos e] at h; cases h
      have e : readV l = ⟨1, n, .empty⟩ := by unfold readV; rw [if_neg hnE, if_neg h1, if_neg h2, if_neg h3, hi]
      rw [e]
      constructor
      · have he : ByteArray.empty.toList.isEmpty = true := (empty_iff _).2 rfl
        unfold valE valLo valHi
        simp only [hemp, he]
        simp
        omega
      · unfold showL
        rw [if_pos rfl]; exact (intL9_iff.1 hi).1
theorem readV_bad {l : List UInt8} (h : readE l ≠ 0) : readV l = ⟨0, 0, .empty⟩ := by unfold readV; rw [if_pos h]

theorem map_bs (xs : List (List UInt8)) : (xs.map bs).map (·.data.toList) = xs := by
  rw [List.map_map]
  conv => rhs; rw [← List.map_id xs]
  exact List.map_congr_left fun x _ => bs_list x
/-- Words, in a row of the call's own. -/
def wv (xs : List (List UInt8)) : List Value := xs.map fun l => Value.string (bs l)
theorem wv_at {xs : List (List UInt8)} {j : Nat} {x : ByteArray} (h : (xs.map bs)[j]? = some x) : (wv xs)[j]? = some (.string x) := by
  rw [List.getElem?_map] at h
  obtain ⟨l, hl, rfl⟩ := Option.map_eq_some_iff.1 h
  unfold wv
  rw [List.getElem?_map, hl]; rfl
/-- What Join makes of them. -/
theorem join_own (B : Nat) (w : World) (bk o c : Nat) (xs : List (List UInt8)) (sep : List UInt8) (h : Own w B 9 1 (.slice (some ⟨bk, o, none⟩) xs.length c) xs.length (wv xs)) (hl : xs.length ≤ 1000) (hc : xs.length ≤ c) (hj : (Lib.join xs sep).length ≤ 1000000) :
    Calls Tryz.prog 58 #[.slice (some ⟨bk, o, none⟩) xs.length c, .string (bs sep)] w fun e w' => e = .returned (.string (bs (Lib.join xs sep))) ∧ Below w.heap.size w w' := by
  have h1 := tx_join bk o c (xs.map bs) (bs sep) w (fun j x hj => h.cell rfl (wv_at hj)) (h.lt bk rfl).2 (by rw [List.length_map]; omega) (by rw [List.length_map]; exact hc) (by rw [map_bs, bs_list]; omega)
  rw [map_bs, bs_list, List.length_map] at h1
  exact h1

/-- A property, a record as text. -/
def prpT (p : Prp) : List UInt8 := p.name.data.toList ++ 61 :: showL p.v
def recT (r : List Prp) : List UInt8 := if r.length = 0 then [45] else Lib.join (r.map prpT) [44]
theorem prp_parts {p : Prp} (h : prpE p = 0) : nameE p.name = 0 ∧ valE p.v = 0 := by
  unfold prpE at h
  split at h
  · rename_i h1; exact ⟨h1, h⟩
  · rename_i h1; exact absurd h h1
theorem dbl_len2 (l : List UInt8) : (dbl l).length ≤ 2 * l.length := by
  induction l with
  | nil => exact Nat.le_refl _
  | cons c l ih => rw [dbl_cons]; split <;> simp <;> omega
theorem show_len {v : Val} (h : valE v = 0) : (showL v).length ≤ 42 := by
  unfold showL
  rcases val_parts h with ⟨h1, h2, h3, _⟩ | ⟨h1, _⟩ | ⟨h1, _, h3, _⟩
  · rw [if_pos h1]; have := (itoa_small h2 h3).2; omega
  · rw [if_neg (by omega), if_pos h1]
    split
    · show (4 : Nat) ≤ 42; omega
    · show (5 : Nat) ≤ 42; omega
  · rw [if_neg (by omega), if_neg (by omega)]
    have h4 := dbl_len2 v.s.data.toList
    have h5 : v.s.data.toList.length = v.s.size := by rw [Array.length_toList]; rfl
    simp only [List.length_cons, List.length_append, List.length_nil]
    omega
theorem name_len {s : ByteArray} (h : nameE s = 0) : s.data.toList.length ≤ 8 := by
  have h5 : s.data.toList.length = s.size := by rw [Array.length_toList]; rfl
  unfold nameE at h
  split at h
  · cases h
  · split at h
    · cases h
    · omega
theorem tail_len : ∀ (r : List (List UInt8)) (sep : List UInt8) (m : Nat), (∀ x ∈ r, x.length ≤ m) → (Lib.joinTail sep r).length ≤ r.length * (m + sep.length)
  | [], _, _, _ => by simp [Lib.joinTail]
  | y :: r, sep, m, h => by
    have hy := h y (by simp)
    have ih := tail_len r sep m fun z hz => h z (List.mem_cons_of_mem _ hz)
    unfold Lib.joinTail at *
    rw [List.map_cons, List.flatten_cons, List.length_append, List.length_append, List.length_cons, Nat.succ_mul]
    omega
theorem join_len : ∀ (xs : List (List UInt8)) (sep : List UInt8) (m : Nat), (∀ x ∈ xs, x.length ≤ m) → (Lib.join xs sep).length ≤ xs.length * (m + sep.length)
  | [], sep, m, _ => by rw [Lib.join_nil]; simp
  | x :: r, sep, m, h => by
    rw [Lib.join_cons, List.length_append]
    have h1 := h x (by simp)
    have h2 := tail_len r sep m fun y hy => h y (List.mem_cons_of_mem _ hy)
    rw [List.length_cons, Nat.succ_mul]
    omega
theorem prp_len {p : Prp} (h : prpE p = 0) : (prpT p).length ≤ 51 := by
  have h1 := name_len (prp_parts h).1
  have h2 := show_len (prp_parts h).2
  unfold prpT
  rw [List.length_append, List.length_cons]; omega
theorem rec_len {r : List Prp} (h : recE r = 0) : (recT r).length ≤ 417 := by
  unfold recT
  split
  · show (1 : Nat) ≤ 417; omega
  · have h1 := join_len (r.map prpT) [44] 51 fun x hx => by
      obtain ⟨p, hp, rfl⟩ := List.mem_map.1 hx
      exact prp_len ((rec_ok h).2.1 p hp)
    have h2 := (rec_ok h).1
    rw [List.length_map] at h1
    have h3 : r.length * (51 + ([44] : List UInt8).length) ≤ 8 * 52 := Nat.mul_le_mul h2 (Nat.le_refl _)
    omega

/-- A sign is not in a text. -/
def noB (c : UInt8) (l : List UInt8) : Prop := ∀ x ∈ l, x ≠ c
theorem noB.nil {c : UInt8} : noB c [] := fun _ h => by cases h
theorem noB.cons {c x : UInt8} {l : List UInt8} (h : x ≠ c) (k : noB c l) : noB c (x :: l) := fun y hy => by
  rcases List.mem_cons.1 hy with rfl | hy
  · exact h
  · exact k y hy
theorem noB.append {c : UInt8} {a b : List UInt8} (h : noB c a) (k : noB c b) : noB c (a ++ b) := fun y hy => by
  rcases List.mem_append.1 hy with hy | hy
  · exact h y hy
  · exact k y hy
/-- A text has a first such sign, or none. -/
theorem first_sign (c : UInt8) : ∀ l : List UInt8, noB c l ∨ ∃ a r, l = a ++ c :: r ∧ noB c a
  | [] => .inl .nil
  | x :: l => by
    by_cases hx : x = c
    · exact .inr ⟨[], l, by rw [hx]; rfl, .nil⟩
    · rcases first_sign c l with h | ⟨a, r, rfl, h⟩
      · exact .inl (.cons hx h)
      · exact .inr ⟨x :: a, r, rfl, .cons hx h⟩
theorem occ_ne {s : List UInt8} {c : UInt8} {i : Nat} (h : s[i]? ≠ some c) : Lib.occAt s [c] i = false := by
  cases hq : Lib.occAt s [c] i with
  | false => rfl
  | true => exact absurd (Lib.occAt_head rfl hq) h
theorem index_sign {c : UInt8} {a r : List UInt8} (h : noB c a) : Lib.index (a ++ c :: r) [c] = a.length :=
  Lib.index_hit (fun j hj => occ_ne (by
    rw [List.getElem?_append_left hj]
    intro e
    exact h _ (List.mem_of_getElem? e) rfl)) (by simp) (by simp [Lib.occAt])
theorem index_no {c : UInt8} {a : List UInt8} (h : noB c a) : Lib.index a [c] = -1 :=
  Lib.index_none fun _ _ => occ_ne fun e => h _ (List.mem_of_getElem? e) rfl
/-- Cut at the first. -/
theorem cut_sign {c : UInt8} {a r : List UInt8} (h : noB c a) : Lib.cut (a ++ c :: r) [c] = (a, r, true) := by
  unfold Lib.cut
  rw [index_sign h, if_pos (by omega)]
  simp
theorem cut_no {c : UInt8} {a : List UInt8} (h : noB c a) : Lib.cut a [c] = (a, [], false) := by
  unfold Lib.cut
  rw [index_no h, if_neg (by omega)]
theorem cut_cases (c : UInt8) (l : List UInt8) : (Lib.cut l [c] = (l, [], false) ∧ noB c l) ∨ ∃ a r, l = a ++ c :: r ∧ noB c a ∧ Lib.cut l [c] = (a, r, true) := by
  rcases first_sign c l with h | ⟨a, r, rfl, h⟩
  · exact .inl ⟨cut_no h, h⟩
  · exact .inr ⟨a, r, rfl, h, cut_sign h⟩
theorem join_two (c : UInt8) (a y : List UInt8) (m : List (List UInt8)) : Lib.join (a :: y :: m) [c] = a ++ c :: Lib.join (y :: m) [c] := by
  show [c].intercalate (a :: y :: m) = _
  have e : [c].intercalate (a :: y :: m) = a ++ [c] ++ [c].intercalate (y :: m) := by simp [List.intercalate, List.intersperse]
  rw [e]; simp [Lib.join]
theorem join_one (c : UInt8) (a : List UInt8) : Lib.join [a] [c] = a := by simp [Lib.join]
/-- Cut at each that is in no quotes. -/
def cutF (c : UInt8) : Bool → List UInt8 → List UInt8 → List (List UInt8)
  | _, cur, [] => [cur]
  | q, cur, x :: l => if x = 39 then cutF c (!q) (cur ++ [x]) l else if x = c ∧ q = false then cur :: cutF c false [] l else cutF c q (cur ++ [x]) l
theorem cutF_cons (c : UInt8) (q : Bool) (cur : List UInt8) (x : UInt8) (l : List UInt8) : cutF c q cur (x :: l) = if x = 39 then cutF c (!q) (cur ++ [x]) l else if x = c ∧ q = false then cur :: cutF c false [] l else cutF c q (cur ++ [x]) l := rfl
def cutL (c : UInt8) (l : List UInt8) : List (List UInt8) := cutF c false [] l
end Go.Proofs.YtdmpkgiijddcdaaGreatDoor
