/- Parts: VtN, ValB, Own, Qr. -/
import Derived.Test.YtdmpkgiijddcdaaGreatDoorMg01
import Derived.Lib.ItoaLen
import Derived.Lib.AtoiTie
import Derived.Lib.Strings
import Derived.Maps.AppendAt
import Derived.Sort.BigQuietIn
/- Plain: decimal numerals: written, and read. No condition. -/
namespace Go.Proofs.YtdmpkgiijddcdaaGreatDoor
open Go

/-- What the reference reads: the number that digits spell, without a needless 0; none: it is no numeral. -/
def numL (l : List UInt8) (most : Nat) : Option Nat := if l = [] ∨ most < l.length ∨ (l.head? = some 48 ∧ 1 < l.length) then none else Lib.decFrom 0 l
theorem digitVal_of {u : Nat} (h : u < 10) : Lib.digitVal (UInt8.ofNat (48 + u)) = some u := by
  have e : (UInt8.ofNat (48 + u)).toNat = 48 + u := by
    rw [UInt8.toNat_ofNat']; omega
  unfold Lib.digitVal
  rw [e, if_pos ⟨by omega, by omega⟩]
  congr 1; omega
theorem decFrom_cons (acc : Nat) (b : UInt8) (l : List UInt8) : Lib.decFrom acc (b :: l) = (match Lib.digitVal b with | some d => Lib.decFrom (acc * 10 + d) l | none => none) := rfl
theorem decFrom_append : ∀ (l m : List UInt8) (acc : Nat), Lib.decFrom acc (l ++ m) = (Lib.decFrom acc l).bind fun a => Lib.decFrom a m
  | [], m, acc => rfl
  | b :: l, m, acc => by
    show Lib.decFrom acc (b :: (l ++ m)) = _
    rw [decFrom_cons, decFrom_cons]
    cases Lib.digitVal b with
    | none => rfl
    | some d => exact decFrom_append l m _
theorem decFrom_digits (u : Nat) : Lib.decFrom 0 (Lib.decDigits u) = some u := by
  induction u using Nat.strongRecOn with
  | ind u ih =>
    rw [Lib.decDigits]
    by_cases h : u < 10
    · rw [dif_pos h]
      show (match Lib.digitVal (UInt8.ofNat (48 + u)) with | some d => Lib.decFrom (0 * 10 + d) [] | none => none) = _
      rw [digitVal_of h]
      show some (0 * 10 + u) = some u
      congr 1; omega
    · rw [dif_neg h, decFrom_append, ih (u / 10) (by omega)]
      show (match Lib.digitVal (UInt8.ofNat (48 + u % 10)) with | some d => Lib.decFrom (u / 10 * 10 + d) [] | none => none) = _
      rw [digitVal_of (by omega)]
      show some (u / 10 * 10 + u % 10) = some u
      congr 1; omega
theorem decDigits_ne (u : Nat) : Lib.decDigits u ≠ [] := by
  intro h
  have := Lib.decDigits_length u
  rw [h] at this
  have := Lib.nDigits_pos u
  simp at *; omega
theorem decDigits_head (u : Nat) : ∃ d r, Lib.decDigits u = UInt8.ofNat (48 + d) :: r ∧ d < 10 ∧ (d = 0 → u = 0) ∧ (u < 10 → r = []) := by
  induction u using Nat.strongRecOn with
  | ind u ih =>
    rw [Lib.decDigits]
    by_cases h : u < 10
    · rw [dif_pos h]; exact ⟨u, [], rfl, h, fun h => h, fun _ => rfl⟩
    · rw [dif_neg h]
      obtain ⟨d, r, h1, h2, h3, _⟩ := ih (u / 10) (by omega)
      rw [h1]
      exact ⟨d, r ++ [UInt8.ofNat (48 + u % 10)], rfl, h2, fun e => by have := h3 e; omega, fun e => absurd e h⟩
theorem ofNat_ne {d : Nat} (h : d < 10) {c : UInt8} (hc : c.toNat < 48 ∨ 57 < c.toNat) : UInt8.ofNat (48 + d) ≠ c := by
  intro e
  have e2 : (UInt8.ofNat (48 + d)).toNat = 48 + d := by rw [UInt8.toNat_ofNat']; omega
  rw [e] at e2; omega
theorem ofNat_zero {d : Nat} (h : d < 10) : UInt8.ofNat (48 + d) = 48 ↔ d = 0 := by
  constructor
  · intro e
    have e2 : (UInt8.ofNat (48 + d)).toNat = 48 + d := by rw [UInt8.toNat_ofNat']; omega
    rw [e] at e2
    have : (48 : UInt8).toNat = 48 := rfl
    omega
  · intro e; subst e; rfl
/-- Digits behind a first one that is no 0 are the number's own. -/
theorem digits_decFrom : ∀ (l : List UInt8) (acc n : Nat), acc ≠ 0 → Lib.decFrom acc l = some n → Lib.decDigits acc ++ l = Lib.decDigits n
  | [], acc, n, _, h => by
    obtain rfl := Option.some.inj h
    simp
  | b :: l, acc, n, h0, h => by
    rw [decFrom_cons] at h
    cases hd : Lib.digitVal b with
    | none => rw [hd] at h; cases h
    | some d =>
      rw [hd] at h
      have h : Lib.decFrom (acc * 10 + d) l = some n := h
      obtain ⟨d1, d2, d3⟩ := Lib.digitVal_eq hd
      have ih := digits_decFrom l (acc * 10 + d) n (by omega) h
      rw [← ih]
      have hb : b = UInt8.ofNat (48 + d) := by
        apply UInt8.toNat_inj.1
        rw [UInt8.toNat_ofNat']; omega
      rw [Lib.decDigits.eq_1 (acc * 10 + d), dif_neg (by omega)]
      have e1 : (acc * 10 + d) / 10 = acc := by omega
      have e2 : (acc * 10 + d) % 10 = d := by omega
      rw [e1, e2, ← hb]
      simp
theorem digits_of {l : List UInt8} {n : Nat} (h1 : l ≠ []) (h2 : ¬ (l.head? = some 48 ∧ 1 < l.length)) (h : Lib.decFrom 0 l = some n) : l = Lib.decDigits n := by
  cases l with
  | nil => exact absurd rfl h1
  | cons b l =>
    rw [decFrom_cons] at h
    cases hd : Lib.digitVal b with
    | none => rw [hd] at h; cases h
    | some d =>
      rw [hd] at h
      have h : Lib.decFrom (0 * 10 + d) l = some n := h
      obtain ⟨d1, d2, d3⟩ := Lib.digitVal_eq hd
      have hb : b = UInt8.ofNat (48 + d) := by
        apply UInt8.toNat_inj.1
        rw [UInt8.toNat_ofNat']; omega
      rw [show 0 * 10 + d = d by omega] at h
      by_cases hd0 : d = 0
      · cases l with
        | nil =>
          obtain rfl := Option.some.inj h
          rw [hb, Lib.decDigits_one (by omega)]
        | cons c l => exact absurd ⟨by rw [hb, hd0]; rfl, by simp⟩ h2
      · rw [← digits_decFrom l d n hd0 h, Lib.decDigits_one (by omega), hb]; rfl
/-- The numerals, just. -/
theorem numL_iff {l : List UInt8} {most n : Nat} : numL l most = some n ↔ l = Lib.decDigits n ∧ l.length ≤ most := by
  unfold numL
  constructor
  · intro h
    split at h
    · cases h
    · rename_i hc
      have h1 : l ≠ [] := fun e => hc (.inl e)
      have h2 : ¬ (l.head? = some 48 ∧ 1 < l.length) := fun e => hc (.inr (.inr e))
      exact ⟨digits_of h1 h2 h, by have : ¬ most < l.length := fun e => hc (.inr (.inl e)); omega⟩
  · rintro ⟨rfl, hl⟩
    rw [if_neg, decFrom_digits]
    rintro (h | h | ⟨h, h'⟩)
    · exact decDigits_ne n h
    · omega
    · obtain ⟨d, r, e, hd, hz, hr⟩ := decDigits_head n
      rw [e] at h h'
      have := (ofNat_zero hd).1 (Option.some.inj h)
      have := hz this
      rw [hr (by omega)] at h'
      simp at h'
/-- What the program reads of a text: the number that it writes so, of at most nine digits. -/
def intL9 (l : List UInt8) : Option Int :=
  if l.head? = some 45 ∧ 1 < l.length then (match numL l.tail 9 with | some u => if u = 0 then none else some (-(u : Int)) | none => none)
  else (numL l 9).map fun (u : Nat) => (u : Int)
theorem itoa_nat (u : Nat) : Lib.itoa (u : Int) = Lib.decDigits u := by
  unfold Lib.itoa
  rw [if_neg (by omega)]; simp
theorem itoa_neg {u : Nat} (h : u ≠ 0) : Lib.itoa (-(u : Int)) = 45 :: Lib.decDigits u := by
  unfold Lib.itoa
  rw [if_pos (by omega)]; simp
theorem itoa_cases (n : Int) : (∃ u : Nat, n = u ∧ Lib.itoa n = Lib.decDigits u) ∨ (∃ u : Nat, u ≠ 0 ∧ n = -(u : Int) ∧ Lib.itoa n = 45 :: Lib.decDigits u) := by
  by_cases h : n < 0
  · have hu : n = -((n.natAbs : Nat) : Int) := by omega
    exact .inr ⟨n.natAbs, by omega, hu, by have := itoa_neg (u := n.natAbs) (by omega); rw [← hu] at this; exact this⟩
  · have hu : n = ((n.toNat : Nat) : Int) := by omega
    exact .inl ⟨n.toNat, hu, by have := itoa_nat n.toNat; rw [← hu] at this; exact this⟩
theorem digits_trim (u : Nat) : Lib.trimPrefix (Lib.decDigits u) [45] = Lib.decDigits u := by
  unfold Lib.trimPrefix Lib.hasPrefix
  obtain ⟨d, r, e, hd, _⟩ := decDigits_head u
  rw [e]
  have : ([45] : List UInt8).isPrefixOf (UInt8.ofNat (48 + d) :: r) = false := by
    simp only [List.isPrefixOf, Bool.and_true]
    rw [beq_eq_false_iff_ne]
    exact fun h => ofNat_ne hd (c := 45) (.inl (by decide)) h.symm
  rw [this]; simp
theorem minus_trim (l : List UInt8) : Lib.trimPrefix (45 :: l) [45] = l := by
  unfold Lib.trimPrefix Lib.hasPrefix
  simp [List.isPrefixOf]
theorem decNat_digits (u : Nat) : Lib.decNat (Lib.decDigits u) = some u := by
  unfold Lib.decNat
  rw [if_neg, decFrom_digits]
  rw [List.isEmpty_iff]
  exact decDigits_ne u
/-- What Atoi reads of a number's own text. -/
theorem atoi_itoa {n : Int} (hl : (Lib.itoa n).length ≤ 18) : Lib.atoiAll (Lib.itoa n) = .ok n := by
  rcases itoa_cases n with ⟨u, rfl, e⟩ | ⟨u, hu, rfl, e⟩
  · rw [e] at hl ⊢
    obtain ⟨d, r, e2, hd, _⟩ := decDigits_head u
    have h1 := Lib.signless_short hl
    rw [decNat_digits] at h1
    rw [e2] at h1 ⊢
    have hv : (UInt8.ofNat (48 + d)).toNat = 48 + d := by rw [UInt8.toNat_ofNat']; omega
    rw [Lib.atoiAll_plain _ _ (by omega) (by omega), h1]; rfl
  · rw [e] at hl ⊢
    have h1 := Lib.signed_short (l := Lib.decDigits u) (by simp at hl; omega)
    rw [decNat_digits] at h1
    rw [Lib.atoiAll_minus, h1]; rfl
open Go.RowKit

def strC (c : UInt8) : Bool := decide ((c.toNat : Int) < 32) || decide (126 < (c.toNat : Int))
/-- The least and the greatest number of a type. -/
def valLo (ty : Int) : Int := if ty = 1 then -1000000 else 0
def valHi (ty : Int) : Int := if ty = 1 then 1000000 else if ty = 2 then 1 else 0
/-- The fault of a value. -/
def valE (v : Val) : Int :=
  if v.ty = 1 ∨ v.ty = 2 ∨ v.ty = 3 then
    if v.n < valLo v.ty ∨ valHi v.ty < v.n then 1
    else if v.ty = 3 ∧ 20 < v.s.size then 4
    else if v.s.data.toList.any strC = true ∨ (v.ty ≠ 3 ∧ v.s.toList.isEmpty = false) then 2
    else 0
  else 8

section
variable (ty n : Int) (s : ByteArray) (w : World)
end


/-- The slice value v, in a block from B on, holds just the cells xs; nobody else writes there. -/
def Own (w : World) (B : Nat) (e : TypeId) (sz : Nat) (v : Value) (n : Nat) (xs : List Value) : Prop :=
  xs.length = n * sz ∧
  ((v = .slice none 0 0 ∧ n = 0) ∨
   ∃ g o cap cur, v = .slice (some ⟨g, o, none⟩) n cap ∧ B ≤ g ∧ w.heap[g]? = some (.cells cur e (0, 0)) ∧ n ≤ cap ∧ cap ≤ maxLen ∧ o + cap * sz ≤ cur.size ∧ (cur.toList.drop o).take (n * sz) = xs)

section
variable {w w' : World} {B : Nat} {e : TypeId} {sz : Nat} {v : Value} {n : Nat} {xs : List Value}

theorem Own.nil (w : World) (B : Nat) (e : TypeId) (sz : Nat) : Own w B e sz (.slice none 0 0) 0 [] := ⟨by simp, .inl ⟨rfl, rfl⟩⟩
theorem Own.form (h : Own w B e sz v n xs) : ∃ A c, v = .slice A n c ∧ n ≤ c ∧ c ≤ maxLen := by
  rcases h.2 with ⟨rfl, rfl⟩ | ⟨g, o, cap, cur, rfl, _, _, h1, h2, _⟩
  · exact ⟨none, 0, rfl, Nat.le_refl _, Nat.zero_le _⟩
  · exact ⟨_, _, rfl, h1, h2⟩
theorem Own.lt (h : Own w B e sz v n xs) : ∀ k, v.ownBlock = some k → B ≤ k ∧ k < w.heap.size := by
  intro k hk
  rcases h.2 with ⟨rfl, _⟩ | ⟨g, o, cap, cur, rfl, hb, hg, _⟩
  · simp [Value.ownBlock] at hk
  · simp [Value.ownBlock] at hk
    subst hk
    exact ⟨hb, (Array.getElem?_eq_some_iff.1 hg).1⟩
/-- It stays as long as its block does. -/
theorem Own.keep (h : Own w B e sz v n xs) (hk : ∀ k, v.ownBlock = some k → w'.heap[k]? = w.heap[k]?) : Own w' B e sz v n xs := by
  refine ⟨h.1, ?_⟩
  rcases h.2 with hn | ⟨g, o, cap, cur, rfl, hb, hg, rest⟩
  · exact .inl hn
  · exact .inr ⟨g, o, cap, cur, rfl, hb, (hk g (by simp [Value.ownBlock])).trans hg, rest⟩
theorem Own.below (h : Own w B e sz v n xs) (hb : Below w.heap.size w w') : Own w' B e sz v n xs :=
  h.keep fun k hk => hb.block k (h.lt k hk).2
theorem Own.alloc (h : Own w B e sz v n xs) (o : Obj) : Own (w.alloc o) B e sz v n xs :=
  h.keep fun k hk => Below.heap_alloc w o k (h.lt k hk).2
theorem Own.drewN (h : Own w B e sz v n xs) (k : Nat) : Own (w.drewN k) B e sz v n xs := h
theorem Own.grown {row : Option Nat} (h : Own w B e sz v n xs) (hg : w.grownBy w' row) (hne : v.ownBlock = none ∨ v.ownBlock ≠ row) : Own w' B e sz v n xs :=
  h.keep fun k hk => hg.block k (h.lt k hk).2 (by rw [← hk]; rcases hne with h0 | h0; (· rw [hk] at h0; cases h0); exact h0)
theorem Own.setCell (h : Own w B e sz v n xs) (p : Addr) (u : Value) (hne : v.ownBlock ≠ some p.block) : Own (w.setCell p u) B e sz v n xs :=
  h.keep fun k hk => Below.heap_setCell w p u k (fun e => hne (by rw [hk, e]))
theorem Own.mono {B' : Nat} (h : Own w B e sz v n xs) (hB : B' ≤ B) : Own w B' e sz v n xs := by
  refine ⟨h.1, ?_⟩
  rcases h.2 with hn | ⟨g, o, cap, cur, rfl, hb, rest⟩
  · exact .inl hn
  · exact .inr ⟨g, o, cap, cur, rfl, by omega, rest⟩
/-- A cell of it. -/
theorem Own.cell (h : Own w B e sz v n xs) {g o c : Nat} (hv : v = .slice (some ⟨g, o, none⟩) n c) {j : Nat} {u : Value} (hj : xs[j]? = some u) : w.cell? ⟨g, o + j, none⟩ = some u := by
  rcases h.2 with ⟨rfl, _⟩ | ⟨g', o', cap, cur, rfl, _, hg, _, _, hcs, ht⟩
  · cases hv
  · injection hv with h1 _ _
    injection h1 with h1
    injection h1 with h1 h2
    subst h1; subst h2
    rw [cell_of_row w g' _ cur e (0, 0) hg]
    rw [← ht, List.getElem?_take] at hj
    split at hj
    · rw [List.getElem?_drop] at hj; simpa using hj
    · cases hj
theorem Own.frozen (h : Own w B e sz v n xs) {g o c : Nat} (hv : v = .slice (some ⟨g, o, none⟩) n c) (j : Nat) : w.frozen? ⟨g, j, none⟩ = false := by
  rcases h.2 with ⟨rfl, _⟩ | ⟨g', o', cap, cur, rfl, _, hg, _⟩
  · cases hv
  · injection hv with h1 _ _
    injection h1 with h1
    injection h1 with h1 h2
    subst h1
    simp [World.frozen?, hg]
theorem Own.addr (h : Own w B e sz v n xs) (hn : 0 < n) : ∃ g o c, v = .slice (some ⟨g, o, none⟩) n c ∧ B ≤ g ∧ g < w.heap.size := by
  rcases h.2 with ⟨_, h0⟩ | ⟨g, o, cap, cur, rfl, hb, hg, _⟩
  · omega
  · exact ⟨g, o, cap, rfl, hb, (Array.getElem?_eq_some_iff.1 hg).1⟩
/-- A store into it. -/
theorem Own.store {g o c : Nat} (h : Own w B e sz (.slice (some ⟨g, o, none⟩) n c) n xs) (j : Nat) (hj : j < n * sz) (u : Value) : Own (w.setCell ⟨g, o + j, none⟩ u) B e sz (.slice (some ⟨g, o, none⟩) n c) n (xs.set j u) := by
  refine ⟨by rw [List.length_set]; exact h.1, ?_⟩
  rcases h.2 with ⟨h0, _⟩ | ⟨g', o', cap, cur, hv, hb, hg, h1, h2, h3, ht⟩
  · cases h0
  · injection hv with e1 _ e3
    injection e1 with e1
    injection e1 with e1 e2
    subst e1; subst e2; subst e3
    refine .inr ⟨g, o, c, cur.setIfInBounds (o + j) u, rfl, hb, ?_, h1, h2, by simpa using h3, ?_⟩
    · simp [World.setCell, Array.getElem?_modify, hg]
    · have hle : n * sz ≤ c * sz := Nat.mul_le_mul_right _ h1
      rw [← ht]
      apply List.ext_getElem?
      intro i
      simp only [List.getElem?_take, List.getElem?_drop, Array.toList_setIfInBounds, List.getElem?_set]
      by_cases hij : j = i
      · subst hij
        have hoj : o + j < cur.size := by omega
        have hjx : j < (List.take (n * sz) (List.drop o cur.toList)).length := by simp; omega
        simp [hj, hoj]
        omega
      · simp [hij]
/-- What is behind the first k. -/
theorem Own.cut {g o c : Nat} (h : Own w B e sz (.slice (some ⟨g, o, none⟩) n c) n xs) {k : Nat} (hk : k ≤ n) (_hc : k < c) : Own w B e sz (.slice (some ⟨g, o + k * sz, none⟩) (n - k) (c - k)) (n - k) (xs.drop (k * sz)) := by
  refine ⟨by rw [List.length_drop, h.1, Nat.sub_mul], ?_⟩
  rcases h.2 with ⟨h0, _⟩ | ⟨g', o', cap, cur, hv, hb, hg, h1, h2, h3, ht⟩
  · cases h0
  · injection hv with e1 _ e3
    injection e1 with e1
    injection e1 with e1 e2
    subst e1; subst e2; subst e3
    refine .inr ⟨g, o + k * sz, c - k, cur, rfl, hb, hg, by omega, by omega, ?_, ?_⟩
    · have : k * sz + (c - k) * sz = c * sz := by rw [← Nat.add_mul]; congr 1; omega
      omega
    · rw [← ht, List.drop_take, List.drop_drop, Nat.sub_mul]
end

theorem grownBy_refl (w : World) (row : Option Nat) : w.grownBy w row := ⟨rfl, rfl, rfl, Nat.le_refl _, fun _ _ _ => rfl⟩

section
variable {P : Program} (w : World)
theorem run_append_at (t ty e : TypeId) (i : TypeInfo) (ht : P.underlying t = some (.slice e)) (hi : P.info? e = some i)
    (g o sLen sCap : Nat) (cur : Array Value) (hg : w.heap[g]? = some (.cells cur e (0, 0)))
    (a : Addr) (m c : Nat) (news : List Value) (hl : news.length = m * i.size) (hnews : ∀ j u, news[j]? = some u → w.cell? (a.add j) = some u) (h1 : ∀ u ∈ news, u.oneCell' = true)
    (hroom : sLen + m ≤ sCap) (hfit : o + sLen * i.size + news.length ≤ cur.size) :
    (Builtin.append_ #[t, t] ty #[.slice (some ⟨g, o, none⟩) sLen sCap, .slice (some a) m c]).run P w =
      .ok (.slice (some ⟨g, o, none⟩) (sLen + m) sCap) (w.setRow g (cur.toList.take (o + sLen * i.size) ++ news ++ cur.toList.drop (o + sLen * i.size + news.length)).toArray) := by
  have hf := run_firstCells_some (P := P) w i.size m a m c news hl hnews
  have hst := run_storeCells_at P g (o + sLen * i.size) e news 0 cur w hg (by simpa using hfit) h1
  simp only [Nat.add_zero] at hst
  have hadd : (⟨g, o, none⟩ : Addr).add (sLen * i.size) = ⟨g, o + sLen * i.size, none⟩ := by unfold Addr.add; split <;> simp_all
  simp [Builtin.append_, run_underlying ht, sizeOf, typeInfo, hi, Builtin.lenOf, hroom, hf, hadd, hst]

/-- append onto an owned slice, whatever is appended. -/
theorem run_append_q (B : Nat) (t ty e : TypeId) (i : TypeInfo) (z : Value) (size bytes : Nat) (ht : P.underlying t = some (.slice e)) (hi : P.info? e = some i) (hz : i.zero = some z)
    (hsize : i.size = size) (hby : i.bytes = bytes) (hzs : z.cells.size = size) (hsz : 0 < size)
    (v : Value) (n : Nat) (xs : List Value) (hown : Own w B e size v n xs)
    (A : Option Addr) (m c : Nat) (news : List Value) (hl : news.length = m * size) (hA : 0 < m → ∃ a, A = some a ∧ ∀ j u, news[j]? = some u → w.cell? (a.add j) = some u) (h1 : ∀ u ∈ news, u.oneCell' = true)
    (h63 : n + m ≤ maxLen) (hbytes : (n + m) * bytes ≤ 140737488355328) (hbase : B ≤ w.heap.size) :
    ∃ v' w', (Builtin.append_ #[t, t] ty #[v, .slice A m c]).run P w = .ok v' w' ∧ Own w' B e size v' (n + m) (xs ++ news) ∧ w.grownBy w' v.ownBlock ∧ (v'.ownBlock = v.ownBlock ∨ v'.ownBlock = some w.heap.size) := by
  subst hsize
  subst hby
  have hsmall : n + m ≤ 9223372036854775807 := by simp only [maxLen] at h63; omega
  have hlen : (xs ++ news).length = (n + m) * i.size := by rw [List.length_append, hown.1, hl, Nat.add_mul]
  have grown : ∀ (old : Nat), old < n + m → ∀ (row : Option Nat),
      Own (w.drew.alloc (.cells (xs.toArray ++ news.toArray ++ Builtin.zeroCells z.cells (grownCap w (n + m) old e - (n + m))) e)) B e i.size
        (.slice (some ⟨w.heap.size, 0, none⟩) (n + m) (grownCap w (n + m) old e)) (n + m) (xs ++ news) ∧
      w.grownBy (w.drew.alloc (.cells (xs.toArray ++ news.toArray ++ Builtin.zeroCells z.cells (grownCap w (n + m) old e - (n + m))) e)) row := by
    intro old ho row
    have hge := grownCap_ge w (n + m) old e
    have hcm : grownCap w (n + m) old e ≤ maxLen := grownCap_le_maxLen w (n + m) old e h63
    refine ⟨⟨hlen, .inr ⟨w.heap.size, 0, _, _, rfl, hbase, heap_alloc_new w.drew _, hge, hcm, ?_, ?_⟩⟩, ⟨rfl, rfl, rfl, by simp, fun k hk _ => Below.heap_alloc w.drew _ k hk⟩⟩
    · simp only [Array.size_append, List.size_toArray, size_zeroCells, hzs, hown.1, hl, ← Nat.add_mul]
      have : n + m + (grownCap w (n + m) old e - (n + m)) = grownCap w (n + m) old e := by omega
      rw [this]; omega
    · simp only [Array.toList_append, List.append_assoc, List.drop_zero]
      rw [← List.append_assoc, ← hlen]
      exact List.take_left
  by_cases hm : m = 0
  · subst hm
    have hn : news = [] := List.eq_nil_of_length_eq_zero (by simpa using hl)
    subst hn
    refine ⟨v, w, ?_, by simpa using hown, grownBy_refl w _, Or.inl rfl⟩
    rcases hown.2 with ⟨rfl, rfl⟩ | ⟨g, o, cap, cur, rfl, _, hg, hnc, _⟩
    · cases A <;> simp [Builtin.append_, run_underlying ht, sizeOf, typeInfo, hi, Builtin.lenOf, Builtin.firstCells, loadCells, loadCellsFrom]
    · cases A <;> simp [Builtin.append_, run_underlying ht, sizeOf, typeInfo, hi, Builtin.lenOf, Builtin.firstCells, loadCells, loadCellsFrom, hnc, storeCells]
  obtain ⟨a, rfl, hnews⟩ := hA (by omega)
  rcases hown.2 with ⟨rfl, rfl⟩ | ⟨g, o, cap, cur, rfl, hbg, hg, hnc, hcm, hcs, htake⟩
  · have hx : xs = [] := List.eq_nil_of_length_eq_zero (by simpa using hown.1)
    subst hx
    have hr := run_append_nil (P := P) w t ty e i z ht hi hz a m c news hl hnews (by omega) (by omega) (by have hb := hbytes; simp only [Nat.zero_add] at hb; omega)
    have hgr := grown 0 (by omega) (Value.ownBlock (.slice none 0 0))
    simp only [Nat.zero_add, List.nil_append, Array.empty_append] at hgr ⊢
    exact ⟨_, _, hr, hgr.1, hgr.2, Or.inr rfl⟩
  · by_cases hroom : n + m ≤ cap
    · have hle : (n + m) * i.size ≤ cap * i.size := Nat.mul_le_mul_right _ hroom
      have hnm : n * i.size + news.length = (n + m) * i.size := by rw [hl, ← Nat.add_mul]
      have hfit : o + n * i.size + news.length ≤ cur.size := by omega
      have hr := run_append_at (P := P) w t ty e i ht hi g o n cap cur hg a m c news hl hnews h1 hroom hfit
      refine ⟨_, _, hr, ⟨hlen, .inr ⟨g, o, cap, _, rfl, hbg, setRow_heap w g cur _ e _ hg, hroom, hcm, ?_, ?_⟩⟩, ⟨rfl, rfl, rfl, by simp, fun k _ hk => setRow_other w g k _ (fun e => hk (by simp [Value.ownBlock, e]))⟩, Or.inl rfl⟩
      · simp only [List.size_toArray, List.length_append, List.length_take, List.length_drop, Array.length_toList]
        omega
      · simp only [List.append_assoc]
        rw [List.drop_append_of_le_length (by simp; omega), ← List.append_assoc]
        have e1 : (cur.toList.take (o + n * i.size)).drop o = xs := by rw [List.drop_take, ← htake]; congr 1; omega
        rw [e1, ← hlen]
        exact List.take_left
    · have holds : ∀ j u, xs[j]? = some u → w.cell? ((⟨g, o, none⟩ : Addr).add j) = some u := by
        intro j u hj
        have hadd : (⟨g, o, none⟩ : Addr).add j = ⟨g, o + j, none⟩ := by unfold Addr.add; split <;> simp_all
        rw [hadd]
        exact hown.cell rfl hj
      have hr := run_append_grow (P := P) w t ty e i z ht hi hz ⟨g, o, none⟩ n cap xs hown.1 holds a m c news hl hnews (by omega) (by omega) (growslice_fits (by omega) hbytes)
      have hgr := grown cap (by omega) (Value.ownBlock (.slice (some ⟨g, o, none⟩) n cap))
      exact ⟨_, _, hr, hgr.1, hgr.2, Or.inr rfl⟩

theorem wp_append_q {o : Oper} {a : Act} {K : Act → World → Prop} {Q : Exit → Act → World → Prop} (s x : Operand) (t : TypeId)
    (ho : o.op = .call { callee := .builtin .append, args := #[s, x], argTypes := #[t, t] })
    (B : Nat) (e : TypeId) (i : TypeInfo) (z : Value) (size bytes : Nat) (ht : P.underlying t = some (.slice e)) (hi : P.info? e = some i) (hz : i.zero = some z)
    (hsize : i.size = size) (hby : i.bytes = bytes) (hzs : z.cells.size = size) (hsz : 0 < size)
    (v : Value) (n : Nat) (xs : List Value) (hs : a.eval s = v) (hown : Own w B e size v n xs)
    (A : Option Addr) (m c : Nat) (news : List Value) (hx : a.eval x = .slice A m c) (hl : news.length = m * size) (hA : 0 < m → ∃ a, A = some a ∧ ∀ j u, news[j]? = some u → w.cell? (a.add j) = some u) (h1 : ∀ u ∈ news, u.oneCell' = true)
    (h63 : n + m ≤ maxLen) (hbytes : (n + m) * bytes ≤ 140737488355328) (hbase : B ≤ w.heap.size)
    (h : ∀ v' w', Own w' B e size v' (n + m) (xs ++ news) → w.grownBy w' v.ownBlock → (v'.ownBlock = v.ownBlock ∨ v'.ownBlock = some w.heap.size) → K (a.put o.dst v') w') : o.wp P a w K Q := by
  obtain ⟨v', w', hr, h2, h3, h4⟩ := run_append_q (P := P) w B t o.type e i z size bytes ht hi hz hsize hby hzs hsz v n xs hown A m c news hl hA h1 h63 hbytes hbase
  unfold Oper.wp execOp
  simp only [ho, resolve, invoke, builtin, Sem.run_bind, Sem.run_pure, Result.andThen_ok, List.map_toArray, List.map_cons, List.map_nil, hs, hx, hr]
  exact h v' w' h2 h3 h4

theorem wpList_append_q {ops : Array Oper} {rest : List Oper} {o : Oper} {a : Act} {Q : Exit → Act → World → Prop} (hgd : o.guard = none) (s x : Operand) (t : TypeId)
    (ho : o.op = .call { callee := .builtin .append, args := #[s, x], argTypes := #[t, t] })
    (B : Nat) (e : TypeId) (i : TypeInfo) (z : Value) (size bytes : Nat) (ht : P.underlying t = some (.slice e)) (hi : P.info? e = some i) (hz : i.zero = some z)
    (hsize : i.size = size) (hby : i.bytes = bytes) (hzs : z.cells.size = size) (hsz : 0 < size)
    (v : Value) (n : Nat) (xs : List Value) (hs : a.eval s = v) (hown : Own w B e size v n xs)
    (A : Option Addr) (m c : Nat) (news : List Value) (hx : a.eval x = .slice A m c) (hl : news.length = m * size) (hA : 0 < m → ∃ a, A = some a ∧ ∀ j u, news[j]? = some u → w.cell? (a.add j) = some u) (h1 : ∀ u ∈ news, u.oneCell' = true)
    (h63 : n + m ≤ maxLen) (hbytes : (n + m) * bytes ≤ 140737488355328) (hbase : B ≤ w.heap.size)
    (h : ∀ v' w', Own w' B e size v' (n + m) (xs ++ news) → w.grownBy w' v.ownBlock → (v'.ownBlock = v.ownBlock ∨ v'.ownBlock = some w.heap.size) → wpList P ops Q rest (a.put o.dst v') w') : wpList P ops Q (o :: rest) a w :=
  wpList_plain hgd fun _ hK => wp_append_q w s x t ho B e i z size bytes ht hi hz hsize hby hzs hsz v n xs hs hown A m c news hx hl hA h1 h63 hbytes hbase fun v' w' h2 h3 h4 => hK _ _ (h v' w' h2 h3 h4)
end

open Go Go.RowKit Go.BigFrame

def noDefB (ops : Array Oper) : Bool := ops.toList.all fun o => match o.op with | .defer _ => false | _ => true
theorem noDef_spec {ops : Array Oper} (h : noDefB ops = true) {i : Nat} {o : Oper} (ho : ops[i]? = some o) : ∀ c, o.op ≠ .defer c := by
  intro c hc
  have hm : o ∈ ops.toList := by rw [Array.mem_toList_iff]; exact Array.mem_of_getElem? ho
  have := List.all_eq_true.1 h o hm
  simp [hc] at this
section
variable {F : Fence} {n : Nat} {P : Program} {ops : Array Oper} {md : Region.Mode} {C : World → Prop}
theorem semAt_any {o : Oper} (ro : Option Nat) (ρ : Operand → Value) (h : ∀ c, o.op ≠ .defer c) : o.semAt ro ρ = execOp ρ o := by
  cases ro with
  | none => rfl
  | some l => exact Oper.semAt_some l ρ o h
theorem wpIn_of_quietR {o : Oper} {a : Act} {K : Act → Prop} {K' : Act → World → Prop} {Q' : Exit → Act → World → Prop} {w : World} (hnd : ∀ c, o.op ≠ .defer c) (hw : C w) (h : ∀ a w', C w' → K a → K' a w')
    (ha : o.askedIn F P a C) (hh : o.quietIn F n P a C K) : o.wpIn F n P a w K' Q' := by
  obtain ⟨v, h1, h2⟩ := hh
  have h3 := h1 w hw
  unfold Oper.quietAtIn at h3
  unfold Oper.wpIn
  refine ⟨ha w hw, ?_⟩
  rw [semAt_any _ _ hnd]
  generalize (execOp a.eval o).run P w = r at *
  cases r with
  | ok x w' =>
    cases x <;> simp only [Oper.quietUponIn] at h3 <;> simp only [Oper.uponIn]
    case value u =>
      obtain ⟨e1, e2⟩ := h3
      rw [e1, e2]
      exact h _ _ hw h2
    case skip =>
      obtain ⟨e1, e2⟩ := h3
      rw [e1, ← e2]
      exact h _ _ hw h2
    case enter f args =>
      obtain ⟨e1, hd, hc⟩ := h3
      rw [e1]
      exact ⟨hd, hc.mono fun e w'' ⟨he, hw''⟩ => by subst he; exact h _ _ hw'' h2⟩
  | halt x w' => simp only [Oper.quietUponIn] at h3
theorem wpOpIn_of_quietR {i : Nat} {a : Act} {K : Act → Prop} {K' : Act → World → Prop} {Q' : Exit → Act → World → Prop} {w : World} (hnd : noDefB ops = true) (hC : C w) (h : ∀ a w', C w' → K a → K' a w')
    (hh : qOpIn F n P ops C i K a) : wpOpIn F n P ops Q' i K' a w := by
  unfold qOpIn at hh
  unfold wpOpIn
  split
  · rename_i ho; simp only [ho] at hh; exact h _ _ hC hh
  · rename_i o ho
    simp only [ho] at hh
    obtain ⟨ha, hh⟩ := hh
    split
    · rename_i hw; simp only [hw, if_true] at hh; exact wpIn_of_quietR (noDef_spec hnd ho) hC h ha hh
    · rename_i hw; simp only [hw] at hh; exact ⟨ha w hC, h _ _ hC hh⟩
theorem wpAnyIn_of_quietR {Q : Act → Prop} {Q' : Exit → Act → World → Prop} (hnd : noDefB ops = true) (hQ : ∀ a w, C w → Q a → Q' .normal a w) : ∀ (fuel : Nat) (listed : Array Bool) (a : Act) (w : World), C w →
    wpAnyQIn F n P md ops C Q fuel listed a → wpAnyIn F n P md ops Q' fuel listed a w
  | 0, _, _, _, hw, h => ⟨h.1, hQ _ _ hw h.2⟩
  | fuel + 1, _, _, _, hw, h => ⟨fun h0 => hQ _ _ hw (h.1 h0), fun i hi => wpOpIn_of_quietR hnd hw (fun a' w' hw' => wpAnyIn_of_quietR hnd hQ fuel _ a' w' hw') (h.2 i hi)⟩
theorem wpIn_quiet_round {id : Nat} {Q : Exit → Act → World → Prop} {a : Act} {w : World} {l : List Oper} (hnd : noDefB l.toArray = true) (hm : P.follows .mixedOrders = true) (hB : Region.lexB .any l.toArray = true)
    (h : wpQuietIn F n P l.toArray (fun w' => ∃ n, w' = w.drewN n) (fun a' => ∀ w', (∃ n, w' = w.drewN n) → Q .normal a' w') l a) : (Code.region id l.toArray true).wpIn F n P Q a w := by
  simp only [Region.lexB, Bool.and_eq_true] at hB
  refine wpIn_region_any hm (wpAnyIn_of_quietR (C := fun w' => ∃ n, w' = w.drewN n) (Q := fun a' => ∀ w', (∃ n, w' = w.drewN n) → Q .normal a' w') hnd (fun _ w' hw' h => h w' hw') _ _ _ _ ⟨1, rfl⟩ ?_)
  have := wpAnyQIn_lex (F := F) (n := n) (C := fun w' => ∃ n, w' = w.drewN n) (md := .any) hB.1 l 0 (Array.replicate l.toArray.size false) a (by simp) (by simpa using hB.2) h
  simpa using this
end
end Go.Proofs.YtdmpkgiijddcdaaGreatDoor
