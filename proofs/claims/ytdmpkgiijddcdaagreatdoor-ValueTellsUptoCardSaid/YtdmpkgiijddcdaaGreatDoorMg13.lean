/- Parts: VqP, DgA. -/
import Derived.Test.YtdmpkgiijddcdaaGreatDoorMg06
import Derived.IntWalk
/- Plain: what the reference reads between quotes, and of digits. No condition. -/
namespace Go.Proofs.YtdmpkgiijddcdaaGreatDoor
open Go

/-- What the reference reads behind a quote; none: it is no text. -/
def qrd : List UInt8 → Option (List UInt8)
  | [] => none
  | [c] => if strC c = true then none else if c = 39 then some [] else none
  | c :: d :: m => if strC c = true then none else if c = 39 then (if d = 39 then (qrd m).map (39 :: ·) else none) else (qrd (d :: m)).map (c :: ·)
theorem qrd_bad {c : UInt8} (l : List UInt8) (h : strC c = true) : qrd (c :: l) = none := by
  cases l with
  | nil => rw [qrd, if_pos h]
  | cons d m => rw [qrd, if_pos h]
theorem qrd_end : qrd [39] = some [] := by rw [qrd, if_neg (by decide), if_pos rfl]
theorem qrd_wrong {d : UInt8} (m : List UInt8) (h : d ≠ 39) : qrd (39 :: d :: m) = none := by rw [qrd, if_neg (by decide), if_pos rfl, if_neg h]
theorem qrd_quote (m : List UInt8) : qrd (39 :: 39 :: m) = (qrd m).map (39 :: ·) := by rw [qrd, if_neg (by decide), if_pos rfl, if_pos rfl]
theorem qrd_plain {c : UInt8} (l : List UInt8) (h : strC c = false) (h2 : c ≠ 39) : qrd (c :: l) = (qrd l).map (c :: ·) := by
  cases l with
  | nil =>
    show (if strC c = true then none else if c = 39 then some [] else none) = _
    rw [if_neg (by rw [h]; simp), if_neg h2]; rfl
  | cons d m => rw [qrd, if_neg (by rw [h]; simp), if_neg h2]
theorem qrd_dbl : ∀ u : List UInt8, u.any strC = false → qrd (dbl u ++ [39]) = some u
  | [], _ => qrd_end
  | c :: u, h => by
    rw [List.any_cons, Bool.or_eq_false_iff] at h
    have ih := qrd_dbl u h.2
    rw [dbl_cons]
    by_cases hc : c = 39
    · subst hc
      rw [if_pos rfl]
      show qrd (39 :: 39 :: (dbl u ++ [39])) = _
      rw [qrd_quote, ih]; rfl
    · rw [if_neg hc]
      show qrd (c :: (dbl u ++ [39])) = _
      rw [qrd_plain _ h.1 hc, ih]; rfl
theorem qrd_of : ∀ (n : Nat) (r u : List UInt8), r.length ≤ n → qrd r = some u → r = dbl u ++ [39] ∧ u.any strC = false
  | _, [], u, _, h => by rw [qrd] at h; cases h
  | 0, _ :: _, _, hn, _ => by simp at hn
  | n + 1, c :: l, u, hn, h => by
    cases hs : strC c with
    | true => rw [qrd_bad l hs] at h; cases h
    | false =>
      by_cases hc : c = 39
      · subst hc
        cases l with
        | nil => rw [qrd_end] at h; obtain rfl := Option.some.inj h; exact ⟨rfl, rfl⟩
        | cons d m =>
          by_cases hd : d = 39
          · subst hd
            rw [qrd_quote] at h
            obtain ⟨v, hv, rfl⟩ := Option.map_eq_some_iff.1 h
            obtain ⟨e, k⟩ := qrd_of n m v (by simp at hn; omega) hv
            refine ⟨?_, ?_⟩
            · rw [dbl_quote, e]; rfl
            · rw [List.any_cons, hs, k]; rfl
          · rw [qrd_wrong m hd] at h; cases h
      · rw [qrd_plain l hs hc] at h
        obtain ⟨v, hv, rfl⟩ := Option.map_eq_some_iff.1 h
        obtain ⟨e, k⟩ := qrd_of n l v (by simp at hn; omega) hv
        refine ⟨?_, ?_⟩
        · rw [dbl_cons, if_neg hc, e]; rfl
        · rw [List.any_cons, hs, k]; rfl
theorem quot_qrd (r : List UInt8) : (quotB (39 :: r) = true ↔ ∃ u, qrd r = some u) ∧ ∀ u, qrd r = some u → bodyL (39 :: r) = u := by
  constructor
  · rw [quot_iff]
    constructor
    · rintro ⟨u, e, h⟩
      injection e with _ e
      exact ⟨u, by rw [e]; exact qrd_dbl u h⟩
    · rintro ⟨u, h⟩
      obtain ⟨e, k⟩ := qrd_of _ r u (Nat.le_refl _) h
      exact ⟨u, by rw [e], k⟩
  · intro u h
    obtain ⟨e, k⟩ := qrd_of _ r u (Nat.le_refl _) h
    rw [e, body_of]
theorem head_words {r : List UInt8} : ¬ (39 :: r = falseL ∨ 39 :: r = trueL) := by
  rintro (h | h) <;> (injection h with h _; exact absurd h (by decide))
theorem read_quote (r : List UInt8) : readE (39 :: r) = (match qrd r with | none => 2 | some u => if 20 < u.length then 4 else 0) := by
  obtain ⟨h1, h2⟩ := quot_qrd r
  unfold readE
  rw [if_neg head_words, if_pos (show (39 :: r : List UInt8).head? = some 39 from rfl)]
  cases hq : qrd r with
  | none =>
    rw [if_neg (fun e => by obtain ⟨u, hu⟩ := h1.1 e; rw [hq] at hu; cases hu)]
  | some u =>
    rw [if_pos (h1.2 ⟨u, hq⟩), h2 u hq]
theorem readV_quote {r u : List UInt8} (h : qrd r = some u) (hl : ¬ 20 < u.length) : readV (39 :: r) = ⟨3, 0, bs u⟩ := by
  have hE : readE (39 :: r) = 0 := by rw [read_quote, h]; exact if_neg hl
  unfold readV
  rw [if_neg (fun e => e hE), if_neg (fun e => head_words (.inl e)), if_neg (fun e => head_words (.inr e)), if_pos (show (39 :: r : List UInt8).head? = some 39 from rfl), (quot_qrd r).2 u h]
/-- A text that is no word and has no quote at its head. -/
theorem read_num {l : List UInt8} (h1 : ¬ (l = falseL ∨ l = trueL)) (h2 : l.head? ≠ some 39) : readE l = (match intL9 l with | some n => if n < -1000000 ∨ 1000000 < n then 1 else 0 | none => 2) ∧ ∀ n, intL9 l = some n → readE l = 0 → readV l = ⟨1, n, .empty⟩ := by
  constructor
  · unfold readE
    rw [if_neg h1, if_neg h2]
    cases intL9 l <;> rfl
  · intro n hn hE
    unfold readV
    rw [if_neg (fun e => e hE), if_neg (fun e => h1 (.inl e)), if_neg (fun e => h1 (.inr e)), if_neg h2, hn]
/-- Digit by digit. -/
theorem decFrom_bad {l : List UInt8} {x : UInt8} {n : Nat} (h : Lib.digitVal x = none) : Lib.decFrom n (x :: l) = none := by rw [decFrom_cons, h]
theorem decFrom_good {l : List UInt8} {x : UInt8} {n d : Nat} (h : Lib.digitVal x = some d) : Lib.decFrom n (x :: l) = Lib.decFrom (n * 10 + d) l := by rw [decFrom_cons, h]
theorem digit_none {x : UInt8} (h : x.toNat < 48 ∨ 57 < x.toNat) : Lib.digitVal x = none := by
  unfold Lib.digitVal
  rw [if_neg (by omega)]
theorem digit_some {x : UInt8} (h1 : 48 ≤ x.toNat) (h2 : x.toNat ≤ 57) : Lib.digitVal x = some (x.toNat - 48) := by
  unfold Lib.digitVal
  rw [if_pos ⟨h1, h2⟩]
theorem drop_cons_of {l : List UInt8} {k : Nat} {x : UInt8} (h : l[k]? = some x) : l.drop k = x :: l.drop (k + 1) := by
  obtain ⟨hk, e⟩ := List.getElem?_eq_some_iff.1 h
  rw [List.drop_eq_getElem_cons hk, e]
open Go Go.RowKit

theorem dig_len {u : Nat} (h : u ≤ 1000000) : (Lib.decDigits u).length ≤ 9 := by
  have := (itoa_small (n := (u : Int)) (by omega) (by omega)).1
  rw [itoa_nat, digits_trim] at this; exact this
theorem dec_big {u : Nat} (h : ¬ u < 10) : Lib.decDigits u = Lib.decDigits (u / 10) ++ Lib.decDigits (u % 10) := by
  rw [Lib.decDigits_one (show u % 10 < 10 by omega)]
  conv => lhs; rw [Lib.decDigits]
  rw [dif_neg h]
theorem dec_text {u : Nat} (h : u < 10) : (⟨#[48, 49, 50, 51, 52, 53, 54, 55, 56, 57]⟩ : ByteArray).extract u (u + 1) = bs (Lib.decDigits u) := by
  rw [Lib.decDigits_one h]
  rcases (by omega : u = 0 ∨ u = 1 ∨ u = 2 ∨ u = 3 ∨ u = 4 ∨ u = 5 ∨ u = 6 ∨ u = 7 ∨ u = 8 ∨ u = 9) with rfl | rfl | rfl | rfl | rfl | rfl | rfl | rfl | rfl | rfl <;> decide +kernel
set_option maxRecDepth 100000 in
set_option maxHeartbeats 2000000 in
theorem dig_pos : ∀ (u : Nat), u ≤ 1000000 → ∀ w : World, Calls Tryz.prog 66 #[.int .i64 (u : Int)] w fun e w' => e = .returned (.string (bs (Lib.decDigits u))) ∧ Below w.heap.size w w' := by
  intro u
  induction u using Nat.strongRecOn with
  | ind u ih =>
  intro hu w
  by_cases h10 : u < 10
  · have HE := Lib.hid (dec_text h10)
    have h10' : (u : Int) < 10 := by omega
    clear ih
    go_enter Tryz.func66, Tryz.ntmps66
    go_wp2_with fail
    go_ret
    exact ⟨by rw [← HE.out]; rfl, Below.refl _ _⟩
  · have hx := ih (u / 10) (by omega) (by omega) w
    have HY := Lib.hid (ih (u % 10) (by omega) (by omega))
    have HE := Lib.hid (dec_big h10)
    have h10' : ¬ (u : Int) < 10 := by omega
    have e1 : (u : Int) / 10 = ((u / 10 : Nat) : Int) := by omega
    have e2 : (u : Int) % 10 = ((u % 10 : Nat) : Int) := by omega
    have E1 := Lib.hid e1
    have E2 := Lib.hid e2
    have l1 := dig_len (u := u / 10) (by omega)
    have l2 := dig_len (u := u % 10) (by omega)
    have s1 : (bs (Lib.decDigits (u / 10))).size ≤ 9 := by rw [bs_size]; exact l1
    have s2 : (bs (Lib.decDigits (u % 10))).size ≤ 9 := by rw [bs_size]; exact l2
    clear ih l1 l2 e1 e2
    go_enter Tryz.func66, Tryz.ntmps66
    go_wp2_with fail
    rw [E1.out]
    refine hx.mono ?_
    clear hx
    rintro e w1 ⟨rfl, hb1⟩
    go_wp2_with fail
    rw [E2.out]
    refine (HY.out w1).mono ?_
    rintro e w2 ⟨rfl, hb2⟩
    generalize hA : bs (Lib.decDigits (u / 10)) = A at *
    generalize hB : bs (Lib.decDigits (u % 10)) = B at *
    have HA := Lib.hid hA
    have HB := Lib.hid hB
    have hsum : ¬ 9223372036854775807 < A.size + B.size := by omega
    clear hA hB
    go_wp2_with fail
    go_ret
    exact ⟨by rw [HE.out, ← bs_append, HA.out, HB.out]; rfl, hb1.trans (hb2.mono hb1.size)⟩
set_option maxHeartbeats 2000000 in
theorem dig_neg : ∀ (u : Nat), 0 < u → u ≤ 1000000 → ∀ w : World, Calls Tryz.prog 66 #[.int .i64 (-(u : Int))] w fun e w' => e = .returned (.string (bs (45 :: Lib.decDigits u))) ∧ Below w.heap.size w w' := by
  intro u
  induction u using Nat.strongRecOn with
  | ind u ih =>
  intro h0 hu w
  have hlt : -(u : Int) < 0 := by omega
  by_cases h9 : u ≤ 9
  · have hx := dig_pos u hu w
    have h9' : ¬ -(u : Int) < -9 := by omega
    have s1 : (bs (Lib.decDigits u)).size ≤ 9 := by rw [bs_size]; exact dig_len hu
    have HE : Hid (bs (45 :: Lib.decDigits u) = bs [45] ++ bs (Lib.decDigits u)) := by unfold Hid; rw [bs_append]; rfl
    clear ih
    generalize hA : bs (Lib.decDigits u) = A at *
    clear hA
    have hsum : ¬ 9223372036854775807 < 1 + A.size := by omega
    go_enter Tryz.func66, Tryz.ntmps66
    go_wp2_with fail
    refine hx.mono ?_
    clear hx
    rintro e w1 ⟨rfl, hb1⟩
    go_wp2_with fail
    go_ret
    exact ⟨by rw [HE.out]; rfl, hb1⟩
  · have hx := ih (u / 10) (by omega) (by omega) (by omega) w
    have HY := Lib.hid (dig_pos (u % 10) (by omega))
    have HE := Lib.hid (dec_big (u := u) (by omega))
    have h9' : -(u : Int) < -9 := by omega
    have l1 := dig_len (u := u / 10) (by omega)
    have l2 := dig_len (u := u % 10) (by omega)
    have s1 : (bs (45 :: Lib.decDigits (u / 10))).size ≤ 10 := by rw [bs_size]; simp; omega
    have s2 : (bs (Lib.decDigits (u % 10))).size ≤ 9 := by rw [bs_size]; exact l2
    have e1 : -((u : Int) / 10) = -((u / 10 : Nat) : Int) := by omega
    have e2 : (u : Int) % 10 = ((u % 10 : Nat) : Int) := by omega
    have HE2 : Hid (bs (45 :: Lib.decDigits u) = bs (45 :: Lib.decDigits (u / 10)) ++ bs (Lib.decDigits (u % 10))) := by unfold Hid; rw [HE.out, bs_append]; rfl
    have E1 := Lib.hid e1
    have E2 := Lib.hid e2
    clear ih l1 l2 e1 e2
    go_enter Tryz.func66, Tryz.ntmps66
    go_wp2_with fail
    rw [E1.out]
    refine hx.mono ?_
    clear hx
    rintro e w1 ⟨rfl, hb1⟩
    go_wp2_with fail
    rw [E2.out]
    refine (HY.out w1).mono ?_
    rintro e w2 ⟨rfl, hb2⟩
    generalize hA : bs (45 :: Lib.decDigits (u / 10)) = A at *
    generalize hB : bs (Lib.decDigits (u % 10)) = B at *
    have hsum : ¬ 9223372036854775807 < A.size + B.size := by omega
    clear hA hB
    go_wp2_with fail
    go_ret
    exact ⟨by rw [HE2.out]; rfl, hb1.trans (hb2.mono hb1.size)⟩
theorem dig_any (n : Int) (h : -1000000 ≤ n ∧ n ≤ 1000000) (w : World) : Calls Tryz.prog 66 #[.int .i64 n] w fun e w' => e = .returned (.string (bs (Lib.itoa n))) ∧ Below w.heap.size w w' := by
  rcases itoa_cases n with ⟨u, rfl, e⟩ | ⟨u, hu, rfl, e⟩
  · rw [e]; exact dig_pos u (by omega) w
  · rw [e]; exact dig_neg u (by omega) (by omega) w
end Go.Proofs.YtdmpkgiijddcdaaGreatDoor
