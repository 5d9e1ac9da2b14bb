/- Parts: RfR. -/
import Derived.Test.YtdmpkgiijddcdaaGreatDoorMg14
import Derived.Test.YtdmpkgiijddcdaaGreatDoorMg08
/- Contracts of the references: kinref1.Value, Prop, Record: what is wrong with a record. No condition. -/
namespace Go.Proofs.YtdmpkgiijddcdaaGreatDoor
open Go Go.RowKit

theorem str_any0 {s : ByteArray} (h : ∀ j x, j < s.size → s.data.toList[j]? = some x → strC x = false) : s.data.toList.any strC = false := by
  rw [List.any_eq_false]
  intro x hx
  obtain ⟨j, hj⟩ := List.mem_iff_getElem?.1 hx
  have hl := (List.getElem?_eq_some_iff.1 hj).1
  have := h j x (by simpa using hl) hj
  simp [this]
theorem str_any1 {s : ByteArray} {k : Nat} {x : UInt8} (h : s.data.toList[k]? = some x) (hx : strC x = true) : s.data.toList.any strC = true :=
  List.any_eq_true.2 ⟨x, List.mem_of_getElem? h, hx⟩
set_option maxRecDepth 100000 in
set_option maxHeartbeats 4000000 in
theorem rvalue_any (v : Val) (w : World) (hs : Sm v.s) :
    Calls Tryz.prog 11 #[.agg #[.int .i64 v.ty, .int .i64 v.n, .string v.s]] w fun e w' => e = .returned (.int .i64 (valE v)) ∧ Below w.heap.size w w' := by
  obtain ⟨ty, n, s⟩ := v
  have hs : s.size ≤ 1048576 := hs
  have hb0 : Below w.heap.size w (w.alloc (.cells #[.int .i64 ty, .int .i64 n, .string s] 43)) := (Below.refl _ _).alloc (Nat.le_refl _) _
  have HF : Hid (valE ⟨ty, n, s⟩ = if ty = 1 ∨ ty = 2 ∨ ty = 3 then (if n < valLo ty ∨ valHi ty < n then 1 else if ty = 3 ∧ 20 < s.size then 4 else if s.data.toList.any strC = true ∨ (ty ≠ 3 ∧ s.toList.isEmpty = false) then 2 else 0) else 8) := rfl
  by_cases h0 : ty < 1
  · have HE : Hid (valE ⟨ty, n, s⟩ = 8) := by unfold Hid; rw [HF.out, if_neg (by omega)]
    clear HF
    go_enter Tryz.func11, Tryz.ntmps11
    go_wp2_with fail
    go_ret
    exact ⟨by rw [HE.out]; rfl, hb0⟩
  by_cases h4 : 3 < ty
  · have h0' : 1 ≤ ty := by omega
    have HE : Hid (valE ⟨ty, n, s⟩ = 8) := by unfold Hid; rw [HF.out, if_neg (by omega)]
    clear h0
    clear HF
    go_enter Tryz.func11, Tryz.ntmps11
    go_wp2_with fail
    go_ret
    exact ⟨by rw [HE.out]; rfl, hb0⟩
  have h3 : ty = 1 ∨ ty = 2 ∨ ty = 3 := by omega
  rcases h3 with rfl | rfl | rfl
  · by_cases h1 : n < -1000000
    · have HE : Hid (valE ⟨1, n, s⟩ = 1) := by unfold Hid; rw [HF.out, if_pos (.inl rfl), if_pos (.inl h1)]
      clear h0 h4
      clear HF
      go_enter Tryz.func11, Tryz.ntmps11
      go_wp2_with fail
      go_ret
      exact ⟨by rw [HE.out]; rfl, hb0⟩
    have h1' : -1000000 ≤ n := by omega
    by_cases h2 : 1000000 < n
    · have HE : Hid (valE ⟨1, n, s⟩ = 1) := by unfold Hid; rw [HF.out, if_pos (.inl rfl), if_pos (.inr h2)]
      clear h0 h4 h1
      clear HF
      go_enter Tryz.func11, Tryz.ntmps11
      go_wp2_with fail
      go_ret
      exact ⟨by rw [HE.out]; rfl, hb0⟩
    have h2' : n ≤ 1000000 := by omega
    have HG : Hid (valE ⟨1, n, s⟩ = if s.data.toList.any strC = true ∨ s.toList.isEmpty = false then 2 else 0) := by
      unfold Hid
      rw [HF.out, if_pos (.inl rfl), if_neg (by rintro (h | h); exact h1 h; exact h2 h), if_neg (by omega)]
      simp
    cases he : s.toList.isEmpty with
    | false =>
      have hq : ¬ s.toList = [] := by intro e; rw [e] at he; cases he
      have HE : Hid (valE ⟨1, n, s⟩ = 2) := by unfold Hid; rw [HG.out, if_pos (.inr he)]
      clear h0 h4 h1 h2 HG
      clear HF
      go_enter Tryz.func11, Tryz.ntmps11
      go_wp2_with fail
      go_ret
      exact ⟨by rw [HE.out]; rfl, hb0⟩
    | true =>
      have hq : s.toList = [] := by simpa using he
      have HS1 : Hid (∀ (k : Nat) x, s.data.toList[k]? = some x → strC x = true → valE ⟨1, n, s⟩ = 2) := fun k x hk hx => by rw [HG.out, if_pos (.inl (str_any1 hk hx))]
      have HS0 : Hid ((∀ j x, j < s.size → s.data.toList[j]? = some x → strC x = false) → valE ⟨1, n, s⟩ = 0) := fun h => by rw [HG.out, str_any0 h, he]; rfl
      clear h0 h4 h1 h2 HG HF
      go_enter Tryz.func11, Tryz.ntmps11
      go_wp2_with fail
      go_loop [3] (fun i => ∃ k : Nat, k ≤ s.size ∧ i = .int .i64 k ∧ Hid (∀ j x, j < k → s.data.toList[j]? = some x → strC x = false)) (fun i => s.size - (intOf i).toNat)
      case atStart => exact ⟨0, Nat.zero_le _, rfl, fun j x hj => absurd hj (Nat.not_lt_zero _)⟩
      case round =>
        obtain ⟨k, hk, rfl, HA⟩ := hrel
        by_cases hlt : k < s.size
        · have hlt' : (k : Int) < (s.size : Int) := by omega
          have HB := Lib.hid (bytes_at s k hlt)
          by_cases hlo : (s[k].toNat : Int) < 32
          · have HE : Hid (valE ⟨1, n, s⟩ = 2) := HS1.out _ _ HB.out (by unfold strC; rw [decide_eq_true hlo]; rfl)
            go_wp2_with fail
            go_ret
            exact ⟨by rw [HE.out]; rfl, hb0⟩
          · have hlo' : (32 : Int) ≤ (s[k].toNat : Int) := by omega
            by_cases hhi : (126 : Int) < (s[k].toNat : Int)
            · have HE : Hid (valE ⟨1, n, s⟩ = 2) := HS1.out _ _ HB.out (by unfold strC; rw [decide_eq_true hhi]; simp)
              clear hlo
              go_wp2_with fail
              go_ret
              exact ⟨by rw [HE.out]; rfl, hb0⟩
            · have hhi' : (s[k].toNat : Int) ≤ 126 := by omega
              have HS : Hid (∀ j x, j < k + 1 → s.data.toList[j]? = some x → strC x = false) := miss_step HA.out HB.out (by unfold strC; rw [decide_eq_false hlo, decide_eq_false hhi]; rfl)
              clear hlo hhi
              go_wp2_with fail
              go_round
              case rel => exact ⟨k + 1, by omega, by go_num, HS⟩
              case measure => simp [intOf]; omega
        · obtain rfl : k = s.size := by omega
          have HE : Hid (valE ⟨1, n, s⟩ = 0) := HS0.out HA.out
          go_wp2_with fail
          go_ret
          exact ⟨by rw [HE.out]; rfl, hb0⟩
  · by_cases h1 : n < 0
    · have HE : Hid (valE ⟨2, n, s⟩ = 1) := by unfold Hid; rw [HF.out, if_pos (.inr (.inl rfl)), if_pos (.inl h1)]
      clear h0 h4
      clear HF
      go_enter Tryz.func11, Tryz.ntmps11
      go_wp2_with fail
      go_ret
      exact ⟨by rw [HE.out]; rfl, hb0⟩
    have h1' : 0 ≤ n := by omega
    by_cases h2 : 1 < n
    · have HE : Hid (valE ⟨2, n, s⟩ = 1) := by unfold Hid; rw [HF.out, if_pos (.inr (.inl rfl)), if_pos (.inr h2)]
      clear h0 h4 h1
      clear HF
      go_enter Tryz.func11, Tryz.ntmps11
      go_wp2_with fail
      go_ret
      exact ⟨by rw [HE.out]; rfl, hb0⟩
    have h2' : n ≤ 1 := by omega
    have HG : Hid (valE ⟨2, n, s⟩ = if s.data.toList.any strC = true ∨ s.toList.isEmpty = false then 2 else 0) := by
      unfold Hid
      rw [HF.out, if_pos (.inr (.inl rfl)), if_neg (by rintro (h | h); exact h1 h; exact h2 h), if_neg (by omega)]
      simp
    cases he : s.toList.isEmpty with
    | false =>
      have hq : ¬ s.toList = [] := by intro e; rw [e] at he; cases he
      have HE : Hid (valE ⟨2, n, s⟩ = 2) := by unfold Hid; rw [HG.out, if_pos (.inr he)]
      clear h0 h4 h1 h2 HG
      clear HF
      go_enter Tryz.func11, Tryz.ntmps11
      go_wp2_with fail
      go_ret
      exact ⟨by rw [HE.out]; rfl, hb0⟩
    | true =>
      have hq : s.toList = [] := by simpa using he
      have HS1 : Hid (∀ (k : Nat) x, s.data.toList[k]? = some x → strC x = true → valE ⟨2, n, s⟩ = 2) := fun k x hk hx => by rw [HG.out, if_pos (.inl (str_any1 hk hx))]
      have HS0 : Hid ((∀ j x, j < s.size → s.data.toList[j]? = some x → strC x = false) → valE ⟨2, n, s⟩ = 0) := fun h => by rw [HG.out, str_any0 h, he]; rfl
      clear h0 h4 h1 h2 HG HF
      go_enter Tryz.func11, Tryz.ntmps11
      go_wp2_with fail
      go_loop [3] (fun i => ∃ k : Nat, k ≤ s.size ∧ i = .int .i64 k ∧ Hid (∀ j x, j < k → s.data.toList[j]? = some x → strC x = false)) (fun i => s.size - (intOf i).toNat)
      case atStart => exact ⟨0, Nat.zero_le _, rfl, fun j x hj => absurd hj (Nat.not_lt_zero _)⟩
      case round =>
        obtain ⟨k, hk, rfl, HA⟩ := hrel
        by_cases hlt : k < s.size
        · have hlt' : (k : Int) < (s.size : Int) := by omega
          have HB := Lib.hid (bytes_at s k hlt)
          by_cases hlo : (s[k].toNat : Int) < 32
          · have HE : Hid (valE ⟨2, n, s⟩ = 2) := HS1.out _ _ HB.out (by unfold strC; rw [decide_eq_true hlo]; rfl)
            go_wp2_with fail
            go_ret
            exact ⟨by rw [HE.out]; rfl, hb0⟩
          · have hlo' : (32 : Int) ≤ (s[k].toNat : Int) := by omega
            by_cases hhi : (126 : Int) < (s[k].toNat : Int)
            · have HE : Hid (valE ⟨2, n, s⟩ = 2) := HS1.out _ _ HB.out (by unfold strC; rw [decide_eq_true hhi]; simp)
              clear hlo
              go_wp2_with fail
              go_ret
              exact ⟨by rw [HE.out]; rfl, hb0⟩
            · have hhi' : (s[k].toNat : Int) ≤ 126 := by omega
              have HS : Hid (∀ j x, j < k + 1 → s.data.toList[j]? = some x → strC x = false) := miss_step HA.out HB.out (by unfold strC; rw [decide_eq_false hlo, decide_eq_false hhi]; rfl)
              clear hlo hhi
              go_wp2_with fail
              go_round
              case rel => exact ⟨k + 1, by omega, by go_num, HS⟩
              case measure => simp [intOf]; omega
        · obtain rfl : k = s.size := by omega
          have HE : Hid (valE ⟨2, n, s⟩ = 0) := HS0.out HA.out
          go_wp2_with fail
          go_ret
          exact ⟨by rw [HE.out]; rfl, hb0⟩
  · by_cases h1 : n = 0
    case neg =>
      have hnb : (n != 0) = true := by simpa using h1
      have HE : Hid (valE ⟨3, n, s⟩ = 1) := by
        unfold Hid
        rw [HF.out, if_pos (.inr (.inr rfl)), if_pos]
        have e1 : valLo 3 = 0 := rfl
        have e2 : valHi 3 = 0 := rfl
        rw [e1, e2]; omega
      clear h0 h4 h1
      clear HF
      go_enter Tryz.func11, Tryz.ntmps11
      go_wp2_with fail
      go_ret
      exact ⟨by rw [HE.out]; rfl, hb0⟩
    subst h1
    by_cases h2 : 20 < s.size
    · have h2' : (20 : Int) < (s.size : Int) := by omega
      have HE : Hid (valE ⟨3, 0, s⟩ = 4) := by unfold Hid; rw [HF.out, if_pos (.inr (.inr rfl)), if_neg (by simp [valLo, valHi]), if_pos ⟨rfl, h2⟩]
      clear h0 h4
      clear HF
      go_enter Tryz.func11, Tryz.ntmps11
      go_wp2_with fail
      go_ret
      exact ⟨by rw [HE.out]; rfl, hb0⟩
    have h2' : (s.size : Int) ≤ 20 := by omega
    have HG : Hid (valE ⟨3, 0, s⟩ = if s.data.toList.any strC = true then 2 else 0) := by
      unfold Hid
      rw [HF.out, if_pos (.inr (.inr rfl)), if_neg (by simp [valLo, valHi]), if_neg (by omega)]
      simp
    have HS1 : Hid (∀ (k : Nat) x, s.data.toList[k]? = some x → strC x = true → valE ⟨3, 0, s⟩ = 2) := fun k x hk hx => by rw [HG.out, if_pos (str_any1 hk hx)]
    have HS0 : Hid ((∀ j x, j < s.size → s.data.toList[j]? = some x → strC x = false) → valE ⟨3, 0, s⟩ = 0) := fun h => by rw [HG.out, str_any0 h]; rfl
    clear h0 h4 h2 HG HF
    go_enter Tryz.func11, Tryz.ntmps11
    go_wp2_with fail
    go_loop [3] (fun i => ∃ k : Nat, k ≤ s.size ∧ i = .int .i64 k ∧ Hid (∀ j x, j < k → s.data.toList[j]? = some x → strC x = false)) (fun i => s.size - (intOf i).toNat)
    case atStart => exact ⟨0, Nat.zero_le _, rfl, fun j x hj => absurd hj (Nat.not_lt_zero _)⟩
    case round =>
      obtain ⟨k, hk, rfl, HA⟩ := hrel
      by_cases hlt : k < s.size
      · have hlt' : (k : Int) < (s.size : Int) := by omega
        have HB := Lib.hid (bytes_at s k hlt)
        by_cases hlo : (s[k].toNat : Int) < 32
        · have HE : Hid (valE ⟨3, 0, s⟩ = 2) := HS1.out _ _ HB.out (by unfold strC; rw [decide_eq_true hlo]; rfl)
          go_wp2_with fail
          go_ret
          exact ⟨by rw [HE.out]; rfl, hb0⟩
        · have hlo' : (32 : Int) ≤ (s[k].toNat : Int) := by omega
          by_cases hhi : (126 : Int) < (s[k].toNat : Int)
          · have HE : Hid (valE ⟨3, 0, s⟩ = 2) := HS1.out _ _ HB.out (by unfold strC; rw [decide_eq_true hhi]; simp)
            clear hlo
            go_wp2_with fail
            go_ret
            exact ⟨by rw [HE.out]; rfl, hb0⟩
          · have hhi' : (s[k].toNat : Int) ≤ 126 := by omega
            have HS : Hid (∀ j x, j < k + 1 → s.data.toList[j]? = some x → strC x = false) := miss_step HA.out HB.out (by unfold strC; rw [decide_eq_false hlo, decide_eq_false hhi]; rfl)
            clear hlo hhi
            go_wp2_with fail
            go_round
            case rel => exact ⟨k + 1, by omega, by go_num, HS⟩
            case measure => simp [intOf]; omega
      · obtain rfl : k = s.size := by omega
        have HE : Hid (valE ⟨3, 0, s⟩ = 0) := HS0.out HA.out
        go_wp2_with fail
        go_ret
        exact ⟨by rw [HE.out]; rfl, hb0⟩
end Go.Proofs.YtdmpkgiijddcdaaGreatDoor
