/- Parts: VtN. -/
import Derived.Test.YtdmpkgiijddcdaaGreatDoorMg01
import Derived.Lib.ItoaLen
import Derived.Lib.AtoiTie
import Derived.Lib.Strings
/- Plain: decimal numerals: written, and read. No condition. -/
namespace Go.Proofs.YtdmpkgiijddcdaaGreatDoor
open Go

/-- What the reference reads: the number that digits spell, without a needless 0; none: it is no numeral. -/
def numL (l : List UInt8) (most : Nat) : Option Nat := if l = [] ∨ most < l.length ∨ (l.head? = some 48 ∧ 1 < l.length) then none else Lib.decFrom 0 l
theorem digitVal_of {u : Nat} (h : u < 10) : Lib.digitVal (UInt8.ofNat (48 + u)) = some u := by
  have e : (UInt8.ofNat (48 + u)).toNat = 48 + u := by
    rw [UInt8.toNat_ofNat']; omega
  unfold Lib.digitVal
  rw [e, if_pos ⟨by omega, by omega⟩]
  congr 1; omega
theorem decFrom_cons (acc : Nat) (b : UInt8) (l : List UInt8) : Lib.decFrom acc (b :: l) = (match Lib.digitVal b with | some d => Lib.decFrom (acc * 10 + d) l | none => none) := rfl
theorem decFrom_append : ∀ (l m : List UInt8) (acc : Nat), Lib.decFrom acc (l ++ m) = (Lib.decFrom acc l).bind fun a => Lib.decFrom a m
  | [], m, acc => rfl
  | b :: l, m, acc => by
    show Lib.decFrom acc (b :: (l ++ m)) = _
    rw [decFrom_cons, decFrom_cons]
    cases Lib.digitVal b with
    | none => rfl
    | some d => exact decFrom_append l m _
theorem decFrom_digits (u : Nat) : Lib.decFrom 0 (Lib.decDigits u) = some u := by
  induction u using Nat.strongRecOn with
  | ind u ih =>
    rw [Lib.decDigits]
    by_cases h : u < 10
    · rw [dif_pos h]
      show (match Lib.digitVal (UInt8.ofNat (48 + u)) with | some d => Lib.decFrom (0 * 10 + d) [] | none => none) = _
      rw [digitVal_of h]
      show some (0 * 10 + u) = some u
      congr 1; omega
    · rw [dif_neg h, decFrom_append, ih (u / 10) (by omega)]
      show (match Lib.digitVal (UInt8.ofNat (48 + u % 10)) with | some d => Lib.decFrom (u / 10 * 10 + d) [] | none => none) = _
      rw [digitVal_of (by omega)]
      show some (u / 10 * 10 + u % 10) = some u
      congr 1; omega
theorem decDigits_ne (u : Nat) : Lib.decDigits u ≠ [] := by
  intro h
  have := Lib.decDigits_length u
  rw [h] at this
  have := Lib.nDigits_pos u
  simp at *; omega
theorem decDigits_head (u : Nat) : ∃ d r, Lib.decDigits u = UInt8.ofNat (48 + d) :: r ∧ d < 10 ∧ (d = 0 → u = 0) ∧ (u < 10 → r = []) := by
  induction u using Nat.strongRecOn with
  | ind u ih =>
    rw [Lib.decDigits]
    by_cases h : u < 10
    · rw [dif_pos h]; exact ⟨u, [], rfl, h, fun h => h, fun _ => rfl⟩
    · rw [dif_neg h]
      obtain ⟨d, r, h1, h2, h3, _⟩ := ih (u / 10) (by omega)
      rw [h1]
      exact ⟨d, r ++ [UInt8.ofNat (48 + u % 10)], rfl, h2, fun e => by have := h3 e; omega, fun e => absurd e h⟩
theorem ofNat_ne {d : Nat} (h : d < 10) {c : UInt8} (hc : c.toNat < 48 ∨ 57 < c.toNat) : UInt8.ofNat (48 + d) ≠ c := by
  intro e
  have e2 : (UInt8.ofNat (48 + d)).toNat = 48 + d := by rw [UInt8.toNat_ofNat']; omega
  rw [e] at e2; omega
theorem ofNat_zero {d : Nat} (h : d < 10) : UInt8.ofNat (48 + d) = 48 ↔ d = 0 := by
  constructor
  · intro e
    have e2 : (UInt8.ofNat (48 + d)).toNat = 48 + d := by rw [UInt8.toNat_ofNat']; omega
    rw [e] at e2
    have : (48 : UInt8).toNat = 48 := rfl
    omega
  · intro e; subst e; rfl
/-- Digits behind a first one that is no 0 are the number's own. -/
theorem digits_decFrom : ∀ (l : List UInt8) (acc n : Nat), acc ≠ 0 → Lib.decFrom acc l = some n → Lib.decDigits acc ++ l = Lib.decDigits n
  | [], acc, n, _, h => by
    obtain rfl := Option.some.inj h
    simp
  | b :: l, acc, n, h0, h => by
    rw [decFrom_cons] at h
    cases hd : Lib.digitVal b with
    | none => rw [hd] at h; cases h
    | some d =>
      rw [hd] at h
      have h : Lib.decFrom (acc * 10 + d) l = some n := h
      obtain ⟨d1, d2, d3⟩ := Lib.digitVal_eq hd
      have ih := digits_decFrom l (acc * 10 + d) n (by omega) h
      rw [← ih]
      have hb : b = UInt8.ofNat (48 + d) := by
        apply UInt8.toNat_inj.1
        rw [UInt8.toNat_ofNat']; omega
      rw [Lib.decDigits.eq_1 (acc * 10 + d), dif_neg (by omega)]
      have e1 : (acc * 10 + d) / 10 = acc := by omega
      have e2 : (acc * 10 + d) % 10 = d := by omega
      rw [e1, e2, ← hb]
      simp
theorem digits_of {l : List UInt8} {n : Nat} (h1 : l ≠ []) (h2 : ¬ (l.head? = some 48 ∧ 1 < l.length)) (h : Lib.decFrom 0 l = some n) : l = Lib.decDigits n := by
  cases l with
  | nil => exact absurd rfl h1
  | cons b l =>
    rw [decFrom_cons] at h
    cases hd : Lib.digitVal b with
    | none => rw [hd] at h; cases h
    | some d =>
      rw [hd] at h
      have h : Lib.decFrom (0 * 10 + d) l = some n := h
      obtain ⟨d1, d2, d3⟩ := Lib.digitVal_eq hd
      have hb : b = UInt8.ofNat (48 + d) := by
        apply UInt8.toNat_inj.1
        rw [UInt8.toNat_ofNat']; omega
      rw [show 0 * 10 + d = d by omega] at h
      by_cases hd0 : d = 0
      · cases l with
        | nil =>
          obtain rfl := Option.some.inj h
          rw [hb, Lib.decDigits_one (by omega)]
        | cons c l => exact absurd ⟨by rw [hb, hd0]; rfl, by simp⟩ h2
      · rw [← digits_decFrom l d n hd0 h, Lib.decDigits_one (by omega), hb]; rfl
/-- The numerals, just. -/
theorem numL_iff {l : List UInt8} {most n : Nat} : numL l most = some n ↔ l = Lib.decDigits n ∧ l.length ≤ most := by
  unfold numL
  constructor
  · intro h
    split at h
    · cases h
    · rename_i hc
      have h1 : l ≠ [] := fun e => hc (.inl e)
      have h2 : ¬ (l.head? = some 48 ∧ 1 < l.length) := fun e => hc (.inr (.inr e))
      exact ⟨digits_of h1 h2 h, by have : ¬ most < l.length := fun e => hc (.inr (.inl e)); omega⟩
  · rintro ⟨rfl, hl⟩
    rw [if_neg, decFrom_digits]
    rintro (h | h | ⟨h, h'⟩)
    · exact decDigits_ne n h
    · omega
    · obtain ⟨d, r, e, hd, hz, hr⟩ := decDigits_head n
      rw [e] at h h'
      have := (ofNat_zero hd).1 (Option.some.inj h)
      have := hz this
      rw [hr (by omega)] at h'
      simp at h'
/-- What the program reads of a text: the number that it writes so, of at most nine digits. -/
def intL9 (l : List UInt8) : Option Int :=
  if l.head? = some 45 ∧ 1 < l.length then (match numL l.tail 9 with | some u => if u = 0 then none else some (-(u : Int)) | none => none)
  else (numL l 9).map fun (u : Nat) => (u : Int)
theorem itoa_nat (u : Nat) : Lib.itoa (u : Int) = Lib.decDigits u := by
  unfold Lib.itoa
  rw [if_neg (by omega)]; simp
theorem itoa_neg {u : Nat} (h : u ≠ 0) : Lib.itoa (-(u : Int)) = 45 :: Lib.decDigits u := by
  unfold Lib.itoa
  rw [if_pos (by omega)]; simp
theorem itoa_cases (n : Int) : (∃ u : Nat, n = u ∧ Lib.itoa n = Lib.decDigits u) ∨ (∃ u : Nat, u ≠ 0 ∧ n = -(u : Int) ∧ Lib.itoa n = 45 :: Lib.decDigits u) := by
  by_cases h : n < 0
  · have hu : n = -((n.natAbs : Nat) : Int) := by omega
    exact .inr ⟨n.natAbs, by omega, hu, by have := itoa_neg (u := n.natAbs) (by omega); rw [← hu] at this; exact this⟩
  · have hu : n = ((n.toNat : Nat) : Int) := by omega
    exact .inl ⟨n.toNat, hu, by have := itoa_nat n.toNat; rw [← hu] at this; exact this⟩
theorem digits_head45 (u : Nat) : (Lib.decDigits u).head? ≠ some 45 := by
  obtain ⟨d, r, e, hd, _⟩ := decDigits_head u
  rw [e]
  intro h
  exact ofNat_ne hd (c := 45) (.inl (by decide)) (Option.some.inj h)
theorem digits_trim (u : Nat) : Lib.trimPrefix (Lib.decDigits u) [45] = Lib.decDigits u := by
  unfold Lib.trimPrefix Lib.hasPrefix
  obtain ⟨d, r, e, hd, _⟩ := decDigits_head u
  rw [e]
  have : ([45] : List UInt8).isPrefixOf (UInt8.ofNat (48 + d) :: r) = false := by
    simp only [List.isPrefixOf, Bool.and_true]
    rw [beq_eq_false_iff_ne]
    exact fun h => ofNat_ne hd (c := 45) (.inl (by decide)) h.symm
  rw [this]; simp
theorem minus_trim (l : List UInt8) : Lib.trimPrefix (45 :: l) [45] = l := by
  unfold Lib.trimPrefix Lib.hasPrefix
  simp [List.isPrefixOf]
/-- The text is the number's own, and not too long, just when it is read. -/
theorem intL9_iff {l : List UInt8} {n : Int} : intL9 l = some n ↔ Lib.itoa n = l ∧ (Lib.trimPrefix l [45]).length ≤ 9 := by
  constructor
  · intro h
    unfold intL9 at h
    split at h
    · rename_i hc
      cases l with
      | nil => simp at hc
      | cons c r =>
        have hc45 : c = 45 := Option.some.inj hc.1
        subst hc45
        show Lib.itoa n = 45 :: r ∧ _
        have h : (match numL r 9 with | some u => if u = 0 then none else some (-(u : Int)) | none => none) = some n := h
        cases hn : numL r 9 with
        | none => rw [hn] at h; cases h
        | some u =>
          rw [hn] at h
          obtain ⟨h1, h2⟩ := numL_iff.1 hn
          by_cases hu : u = 0
          · simp [hu] at h
          · simp only [if_neg hu] at h
            obtain rfl := Option.some.inj h
            rw [itoa_neg hu, ← h1, minus_trim]; exact ⟨rfl, h2⟩
    · cases hn : numL l 9 with
      | none => rw [hn] at h; cases h
      | some u =>
        rw [hn] at h
        obtain rfl := Option.some.inj h
        obtain ⟨h1, h2⟩ := numL_iff.1 hn
        rw [itoa_nat, h1, digits_trim, ← h1]; exact ⟨rfl, h2⟩
  · rintro ⟨rfl, hl⟩
    rcases itoa_cases n with ⟨u, rfl, e⟩ | ⟨u, hu, rfl, e⟩
    · rw [e] at hl ⊢
      rw [digits_trim] at hl
      unfold intL9
      rw [if_neg (fun h => digits_head45 u h.1), numL_iff.2 ⟨rfl, hl⟩]; rfl
    · rw [e] at hl ⊢
      rw [minus_trim] at hl
      have hne := decDigits_ne u
      unfold intL9
      rw [if_pos ⟨rfl, by cases h : Lib.decDigits u with | nil => exact absurd h hne | cons _ _ => simp⟩]
      show (match numL (Lib.decDigits u) 9 with | some u => if u = 0 then none else some (-(u : Int)) | none => none) = _
      rw [numL_iff.2 ⟨rfl, hl⟩]
      simp only [if_neg hu]
theorem decNat_digits (u : Nat) : Lib.decNat (Lib.decDigits u) = some u := by
  unfold Lib.decNat
  rw [if_neg, decFrom_digits]
  rw [List.isEmpty_iff]
  exact decDigits_ne u
/-- What Atoi reads of a number's own text. -/
theorem atoi_itoa {n : Int} (hl : (Lib.itoa n).length ≤ 18) : Lib.atoiAll (Lib.itoa n) = .ok n := by
  rcases itoa_cases n with ⟨u, rfl, e⟩ | ⟨u, hu, rfl, e⟩
  · rw [e] at hl ⊢
    obtain ⟨d, r, e2, hd, _⟩ := decDigits_head u
    have h1 := Lib.signless_short hl
    rw [decNat_digits] at h1
    rw [e2] at h1 ⊢
    have hv : (UInt8.ofNat (48 + d)).toNat = 48 + d := by rw [UInt8.toNat_ofNat']; omega
    rw [Lib.atoiAll_plain _ _ (by omega) (by omega), h1]; rfl
  · rw [e] at hl ⊢
    have h1 := Lib.signed_short (l := Lib.decDigits u) (by simp at hl; omega)
    rw [decNat_digits] at h1
    rw [Lib.atoiAll_minus, h1]; rfl
end Go.Proofs.YtdmpkgiijddcdaaGreatDoor
