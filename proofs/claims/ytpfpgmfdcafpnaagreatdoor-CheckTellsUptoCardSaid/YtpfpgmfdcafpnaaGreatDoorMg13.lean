/- Parts: RfR, RfS, Qg, RfG. -/
import Derived.Test.YtpfpgmfdcafpnaaGreatDoorMg09
import Derived.Test.YtpfpgmfdcafpnaaGreatDoorMg05
import Derived.Test.YtpfpgmfdcafpnaaGreatDoorMg11
import Derived.Test.YtpfpgmfdcafpnaaGreatDoorMg03
/- Contracts of the references: kinref1.Value, Prop, Record: what is wrong with a record. No condition. -/
namespace Go.Proofs.YtpfpgmfdcafpnaaGreatDoor
open Go Go.RowKit

theorem str_any0 {s : ByteArray} (h : ∀ j x, j < s.size → s.data.toList[j]? = some x → strC x = false) : s.data.toList.any strC = false := by
  rw [List.any_eq_false]
  intro x hx
  obtain ⟨j, hj⟩ := List.mem_iff_getElem?.1 hx
  have hl := (List.getElem?_eq_some_iff.1 hj).1
  have := h j x (by simpa using hl) hj
  simp [this]
theorem str_any1 {s : ByteArray} {k : Nat} {x : UInt8} (h : s.data.toList[k]? = some x) (hx : strC x = true) : s.data.toList.any strC = true :=
  List.any_eq_true.2 ⟨x, List.mem_of_getElem? h, hx⟩
set_option maxRecDepth 100000 in
set_option maxHeartbeats 4000000 in
theorem rvalue_any (v : Val) (w : World) (hs : Sm v.s) :
    Calls Tryz.prog 73 #[.agg #[.int .i64 v.ty, .int .i64 v.n, .string v.s]] w fun e w' => e = .returned (.int .i64 (valE v)) ∧ Below w.heap.size w w' := by
  obtain ⟨ty, n, s⟩ := v
  have hs : s.size ≤ 1048576 := hs
  have hb0 : Below w.heap.size w (w.alloc (.cells #[.int .i64 ty, .int .i64 n, .string s] 60)) := (Below.refl _ _).alloc (Nat.le_refl _) _
  have HF : Hid (valE ⟨ty, n, s⟩ = if ty = 1 ∨ ty = 2 ∨ ty = 3 then (if n < valLo ty ∨ valHi ty < n then 1 else if ty = 3 ∧ 20 < s.size then 4 else if s.data.toList.any strC = true ∨ (ty ≠ 3 ∧ s.toList.isEmpty = false) then 2 else 0) else 8) := rfl
  by_cases h0 : ty < 1
  · have HE : Hid (valE ⟨ty, n, s⟩ = 8) := by unfold Hid; rw [HF.out, if_neg (by omega)]
    clear HF
    go_enter Tryz.func73, Tryz.ntmps73
    go_wp2_with fail
    go_ret
    exact ⟨by rw [HE.out]; rfl, hb0⟩
  by_cases h4 : 3 < ty
  · have h0' : 1 ≤ ty := by omega
    have HE : Hid (valE ⟨ty, n, s⟩ = 8) := by unfold Hid; rw [HF.out, if_neg (by omega)]
    clear h0
    clear HF
    go_enter Tryz.func73, Tryz.ntmps73
    go_wp2_with fail
    go_ret
    exact ⟨by rw [HE.out]; rfl, hb0⟩
  have h3 : ty = 1 ∨ ty = 2 ∨ ty = 3 := by omega
  rcases h3 with rfl | rfl | rfl
  · by_cases h1 : n < -1000000
    · have HE : Hid (valE ⟨1, n, s⟩ = 1) := by unfold Hid; rw [HF.out, if_pos (.inl rfl), if_pos (.inl h1)]
      clear h0 h4
      clear HF
      go_enter Tryz.func73, Tryz.ntmps73
      go_wp2_with fail
      go_ret
      exact ⟨by rw [HE.out]; rfl, hb0⟩
    have h1' : -1000000 ≤ n := by omega
    by_cases h2 : 1000000 < n
    · have HE : Hid (valE ⟨1, n, s⟩ = 1) := by unfold Hid; rw [HF.out, if_pos (.inl rfl), if_pos (.inr h2)]
      clear h0 h4 h1
      clear HF
      go_enter Tryz.func73, Tryz.ntmps73
      go_wp2_with fail
      go_ret
      exact ⟨by rw [HE.out]; rfl, hb0⟩
    have h2' : n ≤ 1000000 := by omega
    have HG : Hid (valE ⟨1, n, s⟩ = if s.data.toList.any strC = true ∨ s.toList.isEmpty = false then 2 else 0) := by
      unfold Hid
      rw [HF.out, if_pos (.inl rfl), if_neg (by rintro (h | h); exact h1 h; exact h2 h), if_neg (by omega)]
      simp
    cases he : s.toList.isEmpty with
    | false =>
      have hq : ¬ s.toList = [] := by intro e; rw [e] at he; cases he
      have HE : Hid (valE ⟨1, n, s⟩ = 2) := by unfold Hid; rw [HG.out, if_pos (.inr he)]
      clear h0 h4 h1 h2 HG
      clear HF
      go_enter Tryz.func73, Tryz.ntmps73
      go_wp2_with fail
      go_ret
      exact ⟨by rw [HE.out]; rfl, hb0⟩
    | true =>
      have hq : s.toList = [] := by simpa using he
      have HS1 : Hid (∀ (k : Nat) x, s.data.toList[k]? = some x → strC x = true → valE ⟨1, n, s⟩ = 2) := fun k x hk hx => by rw [HG.out, if_pos (.inl (str_any1 hk hx))]
      have HS0 : Hid ((∀ j x, j < s.size → s.data.toList[j]? = some x → strC x = false) → valE ⟨1, n, s⟩ = 0) := fun h => by rw [HG.out, str_any0 h, he]; rfl
      clear h0 h4 h1 h2 HG HF
      go_enter Tryz.func73, Tryz.ntmps73
      go_wp2_with fail
      go_loop [3] (fun i => ∃ k : Nat, k ≤ s.size ∧ i = .int .i64 k ∧ Hid (∀ j x, j < k → s.data.toList[j]? = some x → strC x = false)) (fun i => s.size - (intOf i).toNat)
      case atStart => exact ⟨0, Nat.zero_le _, rfl, fun j x hj => absurd hj (Nat.not_lt_zero _)⟩
      case round =>
        obtain ⟨k, hk, rfl, HA⟩ := hrel
        by_cases hlt : k < s.size
        · have hlt' : (k : Int) < (s.size : Int) := by omega
          have HB := Lib.hid (bytes_at s k hlt)
          by_cases hlo : (s[k].toNat : Int) < 32
          · have HE : Hid (valE ⟨1, n, s⟩ = 2) := HS1.out _ _ HB.out (by unfold strC; rw [decide_eq_true hlo]; rfl)
            go_wp2_with fail
            go_ret
            exact ⟨by rw [HE.out]; rfl, hb0⟩
          · have hlo' : (32 : Int) ≤ (s[k].toNat : Int) := by omega
            by_cases hhi : (126 : Int) < (s[k].toNat : Int)
            · have HE : Hid (valE ⟨1, n, s⟩ = 2) := HS1.out _ _ HB.out (by unfold strC; rw [decide_eq_true hhi]; simp)
              clear hlo
              go_wp2_with fail
              go_ret
              exact ⟨by rw [HE.out]; rfl, hb0⟩
            · have hhi' : (s[k].toNat : Int) ≤ 126 := by omega
              have HS : Hid (∀ j x, j < k + 1 → s.data.toList[j]? = some x → strC x = false) := miss_step HA.out HB.out (by unfold strC; rw [decide_eq_false hlo, decide_eq_false hhi]; rfl)
              clear hlo hhi
              go_wp2_with fail
              go_round
              case rel => exact ⟨k + 1, by omega, by go_num, HS⟩
              case measure => simp [intOf]; omega
        · obtain rfl : k = s.size := by omega
          have HE : Hid (valE ⟨1, n, s⟩ = 0) := HS0.out HA.out
          go_wp2_with fail
          go_ret
          exact ⟨by rw [HE.out]; rfl, hb0⟩
  · by_cases h1 : n < 0
    · have HE : Hid (valE ⟨2, n, s⟩ = 1) := by unfold Hid; rw [HF.out, if_pos (.inr (.inl rfl)), if_pos (.inl h1)]
      clear h0 h4
      clear HF
      go_enter Tryz.func73, Tryz.ntmps73
      go_wp2_with fail
      go_ret
      exact ⟨by rw [HE.out]; rfl, hb0⟩
    have h1' : 0 ≤ n := by omega
    by_cases h2 : 1 < n
    · have HE : Hid (valE ⟨2, n, s⟩ = 1) := by unfold Hid; rw [HF.out, if_pos (.inr (.inl rfl)), if_pos (.inr h2)]
      clear h0 h4 h1
      clear HF
      go_enter Tryz.func73, Tryz.ntmps73
      go_wp2_with fail
      go_ret
      exact ⟨by rw [HE.out]; rfl, hb0⟩
    have h2' : n ≤ 1 := by omega
    have HG : Hid (valE ⟨2, n, s⟩ = if s.data.toList.any strC = true ∨ s.toList.isEmpty = false then 2 else 0) := by
      unfold Hid
      rw [HF.out, if_pos (.inr (.inl rfl)), if_neg (by rintro (h | h); exact h1 h; exact h2 h), if_neg (by omega)]
      simp
    cases he : s.toList.isEmpty with
    | false =>
      have hq : ¬ s.toList = [] := by intro e; rw [e] at he; cases he
      have HE : Hid (valE ⟨2, n, s⟩ = 2) := by unfold Hid; rw [HG.out, if_pos (.inr he)]
      clear h0 h4 h1 h2 HG
      clear HF
      go_enter Tryz.func73, Tryz.ntmps73
      go_wp2_with fail
      go_ret
      exact ⟨by rw [HE.out]; rfl, hb0⟩
    | true =>
      have hq : s.toList = [] := by simpa using he
      have HS1 : Hid (∀ (k : Nat) x, s.data.toList[k]? = some x → strC x = true → valE ⟨2, n, s⟩ = 2) := fun k x hk hx => by rw [HG.out, if_pos (.inl (str_any1 hk hx))]
      have HS0 : Hid ((∀ j x, j < s.size → s.data.toList[j]? = some x → strC x = false) → valE ⟨2, n, s⟩ = 0) := fun h => by rw [HG.out, str_any0 h, he]; rfl
      clear h0 h4 h1 h2 HG HF
      go_enter Tryz.func73, Tryz.ntmps73
      go_wp2_with fail
      go_loop [3] (fun i => ∃ k : Nat, k ≤ s.size ∧ i = .int .i64 k ∧ Hid (∀ j x, j < k → s.data.toList[j]? = some x → strC x = false)) (fun i => s.size - (intOf i).toNat)
      case atStart => exact ⟨0, Nat.zero_le _, rfl, fun j x hj => absurd hj (Nat.not_lt_zero _)⟩
      case round =>
        obtain ⟨k, hk, rfl, HA⟩ := hrel
        by_cases hlt : k < s.size
        · have hlt' : (k : Int) < (s.size : Int) := by omega
          have HB := Lib.hid (bytes_at s k hlt)
          by_cases hlo : (s[k].toNat : Int) < 32
          · have HE : Hid (valE ⟨2, n, s⟩ = 2) := HS1.out _ _ HB.out (by unfold strC; rw [decide_eq_true hlo]; rfl)
            go_wp2_with fail
            go_ret
            exact ⟨by rw [HE.out]; rfl, hb0⟩
          · have hlo' : (32 : Int) ≤ (s[k].toNat : Int) := by omega
            by_cases hhi : (126 : Int) < (s[k].toNat : Int)
            · have HE : Hid (valE ⟨2, n, s⟩ = 2) := HS1.out _ _ HB.out (by unfold strC; rw [decide_eq_true hhi]; simp)
              clear hlo
              go_wp2_with fail
              go_ret
              exact ⟨by rw [HE.out]; rfl, hb0⟩
            · have hhi' : (s[k].toNat : Int) ≤ 126 := by omega
              have HS : Hid (∀ j x, j < k + 1 → s.data.toList[j]? = some x → strC x = false) := miss_step HA.out HB.out (by unfold strC; rw [decide_eq_false hlo, decide_eq_false hhi]; rfl)
              clear hlo hhi
              go_wp2_with fail
              go_round
              case rel => exact ⟨k + 1, by omega, by go_num, HS⟩
              case measure => simp [intOf]; omega
        · obtain rfl : k = s.size := by omega
          have HE : Hid (valE ⟨2, n, s⟩ = 0) := HS0.out HA.out
          go_wp2_with fail
          go_ret
          exact ⟨by rw [HE.out]; rfl, hb0⟩
  · by_cases h1 : n = 0
    case neg =>
      have hnb : (n != 0) = true := by simpa using h1
      have HE : Hid (valE ⟨3, n, s⟩ = 1) := by
        unfold Hid
        rw [HF.out, if_pos (.inr (.inr rfl)), if_pos]
        have e1 : valLo 3 = 0 := rfl
        have e2 : valHi 3 = 0 := rfl
        rw [e1, e2]; omega
      clear h0 h4 h1
      clear HF
      go_enter Tryz.func73, Tryz.ntmps73
      go_wp2_with fail
      go_ret
      exact ⟨by rw [HE.out]; rfl, hb0⟩
    subst h1
    by_cases h2 : 20 < s.size
    · have h2' : (20 : Int) < (s.size : Int) := by omega
      have HE : Hid (valE ⟨3, 0, s⟩ = 4) := by unfold Hid; rw [HF.out, if_pos (.inr (.inr rfl)), if_neg (by simp [valLo, valHi]), if_pos ⟨rfl, h2⟩]
      clear h0 h4
      clear HF
      go_enter Tryz.func73, Tryz.ntmps73
      go_wp2_with fail
      go_ret
      exact ⟨by rw [HE.out]; rfl, hb0⟩
    have h2' : (s.size : Int) ≤ 20 := by omega
    have HG : Hid (valE ⟨3, 0, s⟩ = if s.data.toList.any strC = true then 2 else 0) := by
      unfold Hid
      rw [HF.out, if_pos (.inr (.inr rfl)), if_neg (by simp [valLo, valHi]), if_neg (by omega)]
      simp
    have HS1 : Hid (∀ (k : Nat) x, s.data.toList[k]? = some x → strC x = true → valE ⟨3, 0, s⟩ = 2) := fun k x hk hx => by rw [HG.out, if_pos (str_any1 hk hx)]
    have HS0 : Hid ((∀ j x, j < s.size → s.data.toList[j]? = some x → strC x = false) → valE ⟨3, 0, s⟩ = 0) := fun h => by rw [HG.out, str_any0 h]; rfl
    clear h0 h4 h2 HG HF
    go_enter Tryz.func73, Tryz.ntmps73
    go_wp2_with fail
    go_loop [3] (fun i => ∃ k : Nat, k ≤ s.size ∧ i = .int .i64 k ∧ Hid (∀ j x, j < k → s.data.toList[j]? = some x → strC x = false)) (fun i => s.size - (intOf i).toNat)
    case atStart => exact ⟨0, Nat.zero_le _, rfl, fun j x hj => absurd hj (Nat.not_lt_zero _)⟩
    case round =>
      obtain ⟨k, hk, rfl, HA⟩ := hrel
      by_cases hlt : k < s.size
      · have hlt' : (k : Int) < (s.size : Int) := by omega
        have HB := Lib.hid (bytes_at s k hlt)
        by_cases hlo : (s[k].toNat : Int) < 32
        · have HE : Hid (valE ⟨3, 0, s⟩ = 2) := HS1.out _ _ HB.out (by unfold strC; rw [decide_eq_true hlo]; rfl)
          go_wp2_with fail
          go_ret
          exact ⟨by rw [HE.out]; rfl, hb0⟩
        · have hlo' : (32 : Int) ≤ (s[k].toNat : Int) := by omega
          by_cases hhi : (126 : Int) < (s[k].toNat : Int)
          · have HE : Hid (valE ⟨3, 0, s⟩ = 2) := HS1.out _ _ HB.out (by unfold strC; rw [decide_eq_true hhi]; simp)
            clear hlo
            go_wp2_with fail
            go_ret
            exact ⟨by rw [HE.out]; rfl, hb0⟩
          · have hhi' : (s[k].toNat : Int) ≤ 126 := by omega
            have HS : Hid (∀ j x, j < k + 1 → s.data.toList[j]? = some x → strC x = false) := miss_step HA.out HB.out (by unfold strC; rw [decide_eq_false hlo, decide_eq_false hhi]; rfl)
            clear hlo hhi
            go_wp2_with fail
            go_round
            case rel => exact ⟨k + 1, by omega, by go_num, HS⟩
            case measure => simp [intOf]; omega
      · obtain rfl : k = s.size := by omega
        have HE : Hid (valE ⟨3, 0, s⟩ = 0) := HS0.out HA.out
        go_wp2_with fail
        go_ret
        exact ⟨by rw [HE.out]; rfl, hb0⟩
end Go.Proofs.YtpfpgmfdcafpnaaGreatDoor

/- Contracts of the references: kinref1.Prop, Record. No condition. -/
namespace Go.Proofs.YtpfpgmfdcafpnaaGreatDoor
open Go Go.RowKit

set_option maxHeartbeats 1000000 in
theorem rprop_any (p : Prp) (w : World) (hp : p.ok) :
    Calls Tryz.prog 53 #[.agg #[.string p.name, .int .i64 p.v.ty, .int .i64 p.v.n, .string p.v.s]] w fun e w' => e = .returned (.int .i64 (prpE p)) ∧ Below w.heap.size w w' := by
  obtain ⟨nm, v⟩ := p
  obtain ⟨hn, hv⟩ := hp
  have hn' : Sm nm := hn
  have hv' : Sm v.s := hv.2.2
  have hb0 : Below w.heap.size w (w.alloc (.cells #[.string nm, .int .i64 v.ty, .int .i64 v.n, .string v.s] 87)) := (Below.refl _ _).alloc (Nat.le_refl _) _
  by_cases h : nameE nm = 0
  · have HE : Hid (prpE ⟨nm, v⟩ = valE v) := by unfold Hid prpE; rw [if_pos h]
    have hr := rname_any nm (w.alloc (.cells #[.string nm, .int .i64 v.ty, .int .i64 v.n, .string v.s] 87)) hn'
    rw [h] at hr
    clear h
    go_enter Tryz.func53, Tryz.ntmps53
    go_wp2_with fail
    refine hr.mono ?_
    clear hr
    rintro e w1 ⟨rfl, rfl⟩
    go_wp2_with fail
    refine (rvalue_any v _ hv').mono ?_
    rintro e w2 ⟨rfl, hb2⟩
    have hb3 := hb0.trans (hb2.mono hb0.size)
    generalize valE v = z at *
    go_wp2_with fail
    go_ret
    exact ⟨by rw [HE.out]; rfl, hb3⟩
  · have HE : Hid (prpE ⟨nm, v⟩ = 2) := by unfold Hid prpE; rw [if_neg h]; exact nameE_two h
    have hr := rname_any nm (w.alloc (.cells #[.string nm, .int .i64 v.ty, .int .i64 v.n, .string v.s] 87)) hn'
    rw [nameE_two h] at hr
    clear h
    go_enter Tryz.func53, Tryz.ntmps53
    go_wp2_with fail
    refine hr.mono ?_
    clear hr
    rintro e w1 ⟨rfl, rfl⟩
    go_wp2_with fail
    go_ret
    exact ⟨by rw [HE.out]; rfl, hb0⟩
set_option maxRecDepth 100000 in
set_option maxHeartbeats 4000000 in
theorem rrecord_any (r : List Prp) (v : Value) (w : World) (hv : Sl prpL w v r) :
    Calls Tryz.prog 32 #[v] w fun e w' => e = .returned (.int .i64 (recE r)) ∧ Below w.heap.size w w' := by
  obtain ⟨A, c, rfl, hlc, hcm⟩ := hv.form
  unfold maxLen at hcm
  have HF : Hid (recE r = if 8 < r.length then 4 else if firstE prpE r = 0 then (if chain (fun a b => ltS a.name b.name) r then 0 else 7) else firstE prpE r) := rfl
  by_cases h8 : 8 < r.length
  · have HE : Hid (recE r = 4) := by unfold Hid; rw [HF.out, if_pos h8]
    have h8' : (8 : Int) < (r.length : Int) := by omega
    clear hv HF
    go_enter Tryz.func32, Tryz.ntmps32
    go_wp2_with fail
    go_ret
    exact ⟨by rw [HE.out]; rfl, Below.refl _ _⟩
  have h8' : (r.length : Int) ≤ 8 := by omega
  go_enter Tryz.func32, Tryz.ntmps32
  go_wp2_with fail
  go_loopw [3] (fun i wr => ∃ k : Nat, k ≤ r.length ∧ i = .int .i64 k ∧ Below w.heap.size w wr ∧ Hid (∀ j x, j < k → r[j]? = some x → prpE x = 0)) (fun i _ => r.length - (intOf i).toNat)
  case atStart => exact ⟨0, Nat.zero_le _, rfl, Below.refl _ _, fun j x hj => absurd hj (Nat.not_lt_zero _)⟩
  case round =>
    obtain ⟨k, hk, rfl, hb, HA⟩ := hrel
    by_cases hlt : k < r.length
    · obtain ⟨d, hd⟩ : ∃ d, r[k]? = some d := ⟨_, List.getElem?_eq_getElem hlt⟩
      obtain ⟨b, o, rfl, hok, x0, x1, x2, x3⟩ := prp_at (hv.below hb) hd
      have hlt' : (k : Int) < (r.length : Int) := by omega
      have HD := Lib.hid hd
      have hp := rprop_any d wr hok
      have HFE : Hid (prpE d ≠ 0 → recE r = prpE d) := fun hne => by
        have := firstE_hit HA.out hd hne
        rw [HF.out, if_neg h8, if_neg (by rw [this]; exact hne), this]
      have HZ : Hid (prpE d = 0 → ∀ j x, j < k + 1 → r[j]? = some x → prpE x = 0) := fun h => zero_step HA.out hd h
      clear hd hok HA hv HF
      generalize prpE d = z at *
      go_wp2_with fail
      refine hp.mono ?_
      clear hp
      rintro e w2 ⟨rfl, hb2⟩
      have hb3 := hb.trans (hb2.mono hb.size)
      by_cases hz : z = 0
      · have HN := Lib.hid (HZ.out hz)
        subst hz
        clear HFE HZ
        go_wp2_with fail
        go_roundw
        case rel => exact ⟨k + 1, by omega, by go_num, hb3, HN⟩
        case measure => simp [intOf]; omega
      · have HE : Hid (recE r = z) := HFE.out hz
        have hzb : (z != 0) = true := by simpa using hz
        clear HFE HZ hz
        go_wp2_with fail
        go_ret
        exact ⟨by rw [HE.out]; rfl, hb3⟩
    · obtain rfl : k = r.length := by omega
      have HG : Hid (recE r = if chain (fun a b => ltS a.name b.name) r then 0 else 7) := by unfold Hid; rw [HF.out, if_neg h8, if_pos (firstE_none HA.out)]
      clear HF HA hk hlt
      obtain ⟨wo, rfl⟩ : ∃ wo : World, wo = wr := ⟨_, rfl⟩
      go_wp2_with fail
      go_loopw [5] (fun i wr => ∃ k : Nat, (k = 0 ∨ k < r.length) ∧ i = .int .i64 ((k : Int) + 1) ∧ Below w.heap.size w wr ∧ Hid (∀ i a b, i < k → r[i]? = some a → r[i + 1]? = some b → ltS a.name b.name = true)) (fun i _ => r.length + 1 - (intOf i).toNat)
      case atStart => exact ⟨0, Or.inl rfl, rfl, hb, fun j _ _ hj => absurd hj (Nat.not_lt_zero _)⟩
      case round =>
        obtain ⟨k, hk, rfl, hb, HA⟩ := hrel
        by_cases hlt : k + 1 < r.length
        · obtain ⟨d, hd⟩ : ∃ d, r[k]? = some d := ⟨_, List.getElem?_eq_getElem (by omega)⟩
          obtain ⟨d', hd'⟩ : ∃ d, r[k + 1]? = some d := ⟨_, List.getElem?_eq_getElem hlt⟩
          obtain ⟨b, o, rfl, hall⟩ := prp_all (hv.below hb) (by omega)
          obtain ⟨_, x0, _⟩ := hall _ _ hd
          obtain ⟨_, y0, _⟩ := hall _ _ hd'
          have hlt' : (k : Int) + 1 < (r.length : Int) := by omega
          have hlt2 : (k : Int) < (r.length : Int) := by omega
          have hk0 : (0 : Int) ≤ (k : Int) := by omega
          have hw1 : IntKind.i64.wrap ((k : Int) + 1 - 1) = (k : Int) := by rw [IntWalk.i64_in _ (by omega)]; omega
          have HD : Hid (r[k]? = some d) := hd
          have HD' : Hid (r[k + 1]? = some d') := hd'
          have hltS : ltS d.name d'.name = decide (0 < cmpS d'.name d.name) := by
            rw [ltS_cmp, cmpS_anti d'.name d.name]; congr 1; apply propext; omega
          have hL : Op.bytesLess d'.name.toList d.name.toList = decide (cmpS d'.name d.name < 0) := ltS_cmp d'.name d.name
          have hE : (d'.name.toList == d.name.toList) = decide (d'.name = d.name) := bytes_beq d'.name d.name
          have HNO : Hid (ltS d.name d'.name = false → recE r = 7) := fun h => by rw [HG.out, chain_not HD.out HD'.out h]; rfl
          have HYES : Hid (ltS d.name d'.name = true → ∀ i a b, i < k + 1 → r[i]? = some a → r[i + 1]? = some b → ltS a.name b.name = true) := fun h => chain_step HA.out HD.out HD'.out h
          clear hall hd hd' hv HG HA HD HD'
          rcases Int.lt_trichotomy (cmpS d'.name d.name) 0 with hc | hc | hc
          · have hqf : ¬ d'.name = d.name := fun e => by rw [cmpS_zero.2 e] at hc; omega
            have HE : Hid (recE r = 7) := HNO.out (by rw [hltS, decide_eq_false (by omega)])
            rw [decide_eq_true hc] at hL
            rw [decide_eq_false hqf] at hE
            have hE2 : ¬ d'.name.toList = d.name.toList := by rw [bytes_eq]; exact hqf
            clear HNO HYES hltS hc hqf
            go_wp2_with fail
            go_quiet (fail)
            go_wp2_with fail
            go_ret
            exact ⟨by rw [HE.out]; rfl, below_drewN hb _⟩
          · have hqf : d'.name = d.name := cmpS_zero.1 hc
            have HE : Hid (recE r = 7) := HNO.out (by rw [hltS, decide_eq_false (by omega)])
            rw [decide_eq_false (show ¬ cmpS d'.name d.name < 0 by omega)] at hL
            rw [decide_eq_true hqf] at hE
            have hE2 : d'.name.toList = d.name.toList := by rw [bytes_eq]; exact hqf
            clear HNO HYES hltS hc hqf
            go_wp2_with fail
            go_quiet (fail)
            go_wp2_with fail
            go_ret
            exact ⟨by rw [HE.out]; rfl, below_drewN hb _⟩
          · have hqf : ¬ d'.name = d.name := fun e => by rw [cmpS_zero.2 e] at hc; omega
            have HN := Lib.hid (HYES.out (by rw [hltS, decide_eq_true hc]))
            rw [decide_eq_false (show ¬ cmpS d'.name d.name < 0 by omega)] at hL
            rw [decide_eq_false hqf] at hE
            have hE2 : ¬ d'.name.toList = d.name.toList := by rw [bytes_eq]; exact hqf
            clear HNO HYES hltS hc hqf
            go_wp2_with fail
            go_quiet (fail)
            go_wp2_with fail
            go_roundw
            case rel => exact ⟨k + 1, by omega, by go_num, below_drewN hb _, HN⟩
            case measure => simp [intOf]; omega
        · have hlt' : (r.length : Int) ≤ (k : Int) + 1 := by omega
          have HE : Hid (recE r = 0) := by unfold Hid; rw [HG.out, chain_all (by omega) HA.out]; rfl
          clear hv HG HA
          go_wp2_with fail
          go_ret
          exact ⟨by rw [HE.out]; rfl, hb⟩
end Go.Proofs.YtpfpgmfdcafpnaaGreatDoor

/- As Qm: the operation in the middle may be guarded; its guard lets it be done. Conditions: the Bool on the region. -/
namespace Go.Proofs.YtpfpgmfdcafpnaaGreatDoor
open Go Go.RowKit Go.Sort
section
variable {P : Program} {ops : Array Oper} {md : Region.Mode} {C : World → Prop}
theorem wp_region_midg {id : Nat} {Q : Exit → Act → World → Prop} {a : Act} {w : World} {l : List Oper} (n : Nat) (om : Oper) (hom : l[n]? = some om) (hm : P.follows .mixedOrders = true) (hB : midB .any l.toArray n = true)
    (hC : C { w with drawn := w.drawn + 1 })
    (h : wpQuiet P l.toArray C (fun a' => Region.wanted om (yielded l.toArray a'.tmps) = true ∧ ∀ w', C w' → om.wp P a' w' (fun a2 w2 => wpQuiet P l.toArray (fun x => ∃ n, x = w2.drewN n) (fun a3 => ∀ w3, (∃ n, w3 = w2.drewN n) → Q .normal a3 w3) (l.drop (n + 1)) a2) Q) (l.take n) a) : (Code.region id l.toArray true).wp P Q a w := by
  simp only [midB, Bool.and_eq_true, decide_eq_true_eq] at hB
  obtain ⟨⟨⟨⟨hsel, hn⟩, hs⟩, hc⟩, hlex⟩ := hB
  have hn' : n < l.length := by simpa using hn
  have htl : (l.take n).length = n := by simp; omega
  have hdl : (l.drop (n + 1)).length = l.toArray.size - n - 1 := by simp; omega
  have inv0 : HeadInv .any l.toArray n (Array.replicate l.toArray.size false) :=
    ⟨by simp, fun j oj _ hl => (by rw [getD_replicate_false] at hl; cases hl), fun t _ ht => getD_in (by simpa using ht) (getD_replicate_false _ _)⟩
  have H := wpAnyLQ_lex2 (C := C) (md := .any) (g := l.toArray.size - n - 1) hsel hs hc hn (l.take n) 0 _ a (fun j hj => by
    have hj' : j < n := by rw [htl] at hj; exact hj
    simp [hj']) (by simpa using htl) inv0 (by rw [htl]; exact hlex) h
  refine wp_region_any hm ?_
  have key := wpAny_of_headQ (C := C) (Q' := Q) (g := l.toArray.size - n - 1 + 1) (fun listed a' w' hw' hL => by
    have h1 := hL.1
    simp only [midRest, Bool.and_eq_true, decide_eq_true_eq] at h1
    refine ⟨fun h0 => (by rw [h1.1] at h0; cases h0), fun i hi => ?_⟩
    rw [h1.1] at hi
    obtain rfl : i = n := by simpa using hi
    have h0 : l.toArray[i]? = some om := by simpa using hom
    unfold wpOp
    simp only [h0]
    have hw := hL.2.1
    simp only [hw, if_true]
    refine .inl ?_
    have h2 := hL.2.2 w' hw'
    unfold Oper.wp at h2 ⊢
    generalize (execOp a'.eval om).run P w' = r at h2 ⊢
    have step : ∀ a2 w2, wpQuiet P l.toArray (fun x => ∃ n, x = w2.drewN n) (fun a3 => ∀ w3, (∃ n, w3 = w2.drewN n) → Q .normal a3 w3) (l.drop (i + 1)) a2 →
        wpAny P .any l.toArray Q (l.toArray.size - i - 1) (listed.setIfInBounds i true) a2 w2 := fun a2 w2 hq => by
      have h3 := wpAnyQ_lex (C := fun x => ∃ n, x = w2.drewN n) (md := .any) hsel (l.drop (i + 1)) (i + 1) (listed.setIfInBounds i true) a2 (fun j => by simp [List.getElem?_drop]) (by rw [hdl]; exact h1.2) hq
      rw [hdl] at h3
      exact wpAny_of_quiet (Q := fun a3 => ∀ w3, (∃ n, w3 = w2.drewN n) → Q .normal a3 w3) (fun _ w3 hw3 h => h w3 hw3) _ _ _ _ ⟨0, rfl⟩ h3
    cases r with
    | ok nx w2 =>
      cases nx <;> simp only [Oper.upon] at h2 ⊢
      case value v => exact step _ _ h2
      case skip => exact step _ _ h2
      case defer d => exact step _ _ h2
      case enter f args =>
        refine h2.mono fun e w3 h3 => ?_
        cases e with
        | returned v => exact step _ _ h3
        | panicked c => exact h3
        | outgrown => exact h3
      case row r args => exact h2.mono fun v w3 h3 => step _ _ h3
      all_goals first | exact h2.elim | exact h2
    | halt hh w2 =>
      cases hh <;> simp only [Oper.upon] at h2 ⊢
      all_goals first | exact h2 | exact h2.elim) _ _ _ _ hC H
  rw [htl, show n + (l.toArray.size - n - 1 + 1) = l.toArray.size by simp only [List.size_toArray]; omega] at key
  exact key

theorem wp_mid_g {id : Nat} {Q : Exit → Act → World → Prop} {a : Act} {w : World} {l : List Oper} (n : Nat) (om : Oper) (hom : l[n]? = some om) (hm : P.follows .mixedOrders = true) (hB : midB .any l.toArray n = true)
    (h : wpQuiet P l.toArray (fun w' => ∃ n, w' = w.drewN n) (fun a' => Region.wanted om (yielded l.toArray a'.tmps) = true ∧ ∀ w', (∃ n, w' = w.drewN n) → ∀ K : Act → World → Prop, (∀ a2 w2, wpQuiet P l.toArray (fun x => ∃ n, x = w2.drewN n) (fun a3 => ∀ w3, (∃ n, w3 = w2.drewN n) → Q .normal a3 w3) (l.drop (n + 1)) a2 → K a2 w2) → om.wp P a' w' K Q) (l.take n) a) : (Code.region id l.toArray true).wp P Q a w :=
  wp_region_midg (C := fun w' => ∃ n, w' = w.drewN n) n om hom hm hB ⟨1, rfl⟩ (wpQuiet_mono (fun _ h => ⟨h.1, fun w' hw' => h.2 w' hw' _ fun _ _ h => h⟩) _ _ h)
end
end Go.Proofs.YtpfpgmfdcafpnaaGreatDoor

/- Contracts of the references: kinref1.Id, Node, Tie, Less, Graph: what is wrong with a graph. No condition. -/
namespace Go.Proofs.YtpfpgmfdcafpnaaGreatDoor
open Go Go.RowKit


theorem rid_any (n : Int) (w : World) : Calls Tryz.prog 30 #[.int .i64 n] w fun e w' => e = .returned (.bool (idB n)) ∧ w = w' := by
  have HE : Hid (idB n = (decide (1 ≤ n) && decide (n ≤ 1000))) := rfl
  by_cases h1 : 1 ≤ n
  · have HB : Hid (idB n = decide (n ≤ 1000)) := by unfold Hid; rw [HE.out, decide_eq_true h1]; rfl
    clear HE
    go_enter Tryz.func30, Tryz.ntmps30
    go_wp2_with fail
    go_ret
    exact ⟨by rw [HB.out]; rfl, rfl⟩
  · have HB : Hid (idB n = false) := by unfold Hid; rw [HE.out, decide_eq_false h1]; rfl
    have h1' : n < 1 := by omega
    clear HE h1
    go_enter Tryz.func30, Tryz.ntmps30
    go_wp2_with fail
    go_ret
    exact ⟨by rw [HB.out]; rfl, rfl⟩
set_option maxHeartbeats 1000000 in
theorem rnode_any (n : Nod) (v : Value) (w : World) (hi : Sm n.kind) (hv : Sl prpL w v n.props) :
    Calls Tryz.prog 14 #[.agg #[.int .i64 n.id, .string n.kind, v]] w fun e w' => e = .returned (.int .i64 (nodE n)) ∧ Below w.heap.size w w' := by
  obtain ⟨A, c, rfl, _, _⟩ := hv.form
  have HF : Hid (nodE n = if idB n.id = false then 1 else if nameE n.kind = 0 then recE n.props else nameE n.kind) := rfl
  obtain ⟨id, kind, props⟩ := n
  have hi' : Sm kind := hi
  have hv : Sl prpL w (.slice A props.length c) props := hv
  have hb0 : Below w.heap.size w (w.alloc (.cells #[.int .i64 id, .string kind, .slice A props.length c] 33)) := (Below.refl _ _).alloc (Nat.le_refl _) _
  have h1 := rid_any id (w.alloc (.cells #[.int .i64 id, .string kind, .slice A props.length c] 33))
  have h2 := rname_any kind (w.alloc (.cells #[.int .i64 id, .string kind, .slice A props.length c] 33)) hi'
  have h3 := rrecord_any props _ _ (hv.below hb0)
  cases hq : idB id with
  | false =>
    have HE : Hid (nodE ⟨id, kind, props⟩ = 1) := by unfold Hid; rw [HF.out]; simp only [hq, if_true]
    rw [hq] at h1
    clear hv h2 h3 hq HF
    go_enter Tryz.func14, Tryz.ntmps14
    go_wp2_with fail
    refine h1.mono ?_
    clear h1
    rintro e w1 ⟨rfl, rfl⟩
    go_wp2_with fail
    go_ret
    exact ⟨by rw [HE.out]; rfl, hb0⟩
  | true =>
    rw [hq] at h1
    by_cases hn : nameE kind = 0
    · have HE : Hid (nodE ⟨id, kind, props⟩ = recE props) := by unfold Hid; rw [HF.out]; simp only [hq, hn, if_true, Bool.true_eq_false, if_false]
      rw [hn] at h2
      clear hv hq HF hn
      generalize recE props = z at *
      go_enter Tryz.func14, Tryz.ntmps14
      go_wp2_with fail
      refine h1.mono ?_
      clear h1
      rintro e w1 ⟨rfl, rfl⟩
      go_wp2_with fail
      refine h2.mono ?_
      clear h2
      rintro e w1 ⟨rfl, rfl⟩
      go_wp2_with fail
      refine h3.mono ?_
      clear h3
      rintro e w2 ⟨rfl, hb2⟩
      go_wp2_with fail
      go_ret
      exact ⟨by rw [HE.out]; rfl, hb0.trans (hb2.mono hb0.size)⟩
    · have HE : Hid (nodE ⟨id, kind, props⟩ = 2) := by unfold Hid; rw [HF.out]; simp only [hq, hn, Bool.true_eq_false, if_false]; exact nameE_two hn
      rw [nameE_two hn] at h2
      clear hv hq HF hn h3
      go_enter Tryz.func14, Tryz.ntmps14
      go_wp2_with fail
      refine h1.mono ?_
      clear h1
      rintro e w1 ⟨rfl, rfl⟩
      go_wp2_with fail
      refine h2.mono ?_
      clear h2
      rintro e w1 ⟨rfl, rfl⟩
      go_wp2_with fail
      go_ret
      exact ⟨by rw [HE.out]; rfl, hb0⟩
set_option maxHeartbeats 1000000 in
theorem rtie_any (t : Tie) (w : World) (hs : Sm t.bond) :
    Calls Tryz.prog 37 #[.agg #[.string t.bond, .int .i64 t.src, .int .i64 t.dst]] w fun e w' => e = .returned (.int .i64 (tieE t)) ∧ Below w.heap.size w w' := by
  have HF : Hid (tieE t = if nameE t.bond = 0 then (if (idB t.src && idB t.dst) then 0 else 1) else nameE t.bond) := rfl
  obtain ⟨bond, src, dst⟩ := t
  have hs : Sm bond := hs
  have hb0 : Below w.heap.size w (w.alloc (.cells #[.string bond, .int .i64 src, .int .i64 dst] 72)) := (Below.refl _ _).alloc (Nat.le_refl _) _
  have h1 := rname_any bond (w.alloc (.cells #[.string bond, .int .i64 src, .int .i64 dst] 72)) hs
  have h2 := rid_any src (w.alloc (.cells #[.string bond, .int .i64 src, .int .i64 dst] 72))
  have h3 := rid_any dst (w.alloc (.cells #[.string bond, .int .i64 src, .int .i64 dst] 72))
  by_cases hn : nameE bond = 0
  · rw [hn] at h1
    have HG : Hid (tieE ⟨bond, src, dst⟩ = if (idB src && idB dst) then 0 else 1) := by unfold Hid; rw [HF.out]; simp only [hn, if_true]
    clear hn HF
    generalize idB src = p at *
    generalize idB dst = q at *
    cases p with
    | false =>
      have HE : Hid (tieE ⟨bond, src, dst⟩ = 1) := HG.out
      cases q with
      | false =>
        go_enter Tryz.func37, Tryz.ntmps37
        go_wp2_with fail
        refine h1.mono ?_
        clear h1
        rintro e w1 ⟨rfl, rfl⟩
        go_wp2_with fail
        refine h2.mono ?_
        clear h2
        rintro e w1 ⟨rfl, rfl⟩
        go_wp2_with fail
        refine h3.mono ?_
        clear h3
        rintro e w1 ⟨rfl, rfl⟩
        go_wp2_with fail
        go_ret
        exact ⟨by rw [HE.out]; rfl, hb0⟩
      | true =>
        go_enter Tryz.func37, Tryz.ntmps37
        go_wp2_with fail
        refine h1.mono ?_
        clear h1
        rintro e w1 ⟨rfl, rfl⟩
        go_wp2_with fail
        refine h2.mono ?_
        clear h2
        rintro e w1 ⟨rfl, rfl⟩
        go_wp2_with fail
        refine h3.mono ?_
        clear h3
        rintro e w1 ⟨rfl, rfl⟩
        go_wp2_with fail
        go_ret
        exact ⟨by rw [HE.out]; rfl, hb0⟩
    | true =>
      cases q with
      | false =>
        have HE : Hid (tieE ⟨bond, src, dst⟩ = 1) := HG.out
        go_enter Tryz.func37, Tryz.ntmps37
        go_wp2_with fail
        refine h1.mono ?_
        clear h1
        rintro e w1 ⟨rfl, rfl⟩
        go_wp2_with fail
        refine h2.mono ?_
        clear h2
        rintro e w1 ⟨rfl, rfl⟩
        go_wp2_with fail
        refine h3.mono ?_
        clear h3
        rintro e w1 ⟨rfl, rfl⟩
        go_wp2_with fail
        go_ret
        exact ⟨by rw [HE.out]; rfl, hb0⟩
      | true =>
        have HE : Hid (tieE ⟨bond, src, dst⟩ = 0) := HG.out
        go_enter Tryz.func37, Tryz.ntmps37
        go_wp2_with fail
        refine h1.mono ?_
        clear h1
        rintro e w1 ⟨rfl, rfl⟩
        go_wp2_with fail
        refine h2.mono ?_
        clear h2
        rintro e w1 ⟨rfl, rfl⟩
        go_wp2_with fail
        refine h3.mono ?_
        clear h3
        rintro e w1 ⟨rfl, rfl⟩
        go_wp2_with fail
        go_ret
        exact ⟨by rw [HE.out]; rfl, hb0⟩
  · rw [nameE_two hn] at h1
    have HE : Hid (tieE ⟨bond, src, dst⟩ = 2) := by unfold Hid; rw [HF.out]; simp only [hn, if_false]; exact nameE_two hn
    clear hn HF
    generalize idB src = p at *
    generalize idB dst = q at *
    cases p with
    | false =>
      cases q with
      | false =>
        go_enter Tryz.func37, Tryz.ntmps37
        go_wp2_with fail
        refine h1.mono ?_
        clear h1
        rintro e w1 ⟨rfl, rfl⟩
        go_wp2_with fail
        refine h2.mono ?_
        clear h2
        rintro e w1 ⟨rfl, rfl⟩
        go_wp2_with fail
        refine h3.mono ?_
        clear h3
        rintro e w1 ⟨rfl, rfl⟩
        go_wp2_with fail
        go_ret
        exact ⟨by rw [HE.out]; rfl, hb0⟩
      | true =>
        go_enter Tryz.func37, Tryz.ntmps37
        go_wp2_with fail
        refine h1.mono ?_
        clear h1
        rintro e w1 ⟨rfl, rfl⟩
        go_wp2_with fail
        refine h2.mono ?_
        clear h2
        rintro e w1 ⟨rfl, rfl⟩
        go_wp2_with fail
        refine h3.mono ?_
        clear h3
        rintro e w1 ⟨rfl, rfl⟩
        go_wp2_with fail
        go_ret
        exact ⟨by rw [HE.out]; rfl, hb0⟩
    | true =>
      cases q with
      | false =>
        go_enter Tryz.func37, Tryz.ntmps37
        go_wp2_with fail
        refine h1.mono ?_
        clear h1
        rintro e w1 ⟨rfl, rfl⟩
        go_wp2_with fail
        refine h2.mono ?_
        clear h2
        rintro e w1 ⟨rfl, rfl⟩
        go_wp2_with fail
        refine h3.mono ?_
        clear h3
        rintro e w1 ⟨rfl, rfl⟩
        go_wp2_with fail
        go_ret
        exact ⟨by rw [HE.out]; rfl, hb0⟩
      | true =>
        go_enter Tryz.func37, Tryz.ntmps37
        go_wp2_with fail
        refine h1.mono ?_
        clear h1
        rintro e w1 ⟨rfl, rfl⟩
        go_wp2_with fail
        refine h2.mono ?_
        clear h2
        rintro e w1 ⟨rfl, rfl⟩
        go_wp2_with fail
        refine h3.mono ?_
        clear h3
        rintro e w1 ⟨rfl, rfl⟩
        go_wp2_with fail
        go_ret
        exact ⟨by rw [HE.out]; rfl, hb0⟩
theorem less_bond {a b : Tie} (h : a.bond ≠ b.bond) : decide (tieO a b < 0) = Op.bytesLess a.bond.toList b.bond.toList := by
  have h1 : cmpS a.bond b.bond ≠ 0 := fun e => h (cmpS_zero.1 e)
  have h2 : Op.bytesLess a.bond.toList b.bond.toList = decide (cmpS a.bond b.bond < 0) := ltS_cmp a.bond b.bond
  rw [h2]
  unfold tieO orI
  rw [if_neg h1]
theorem less_src {a b : Tie} (h : a.bond = b.bond) (h2 : a.src ≠ b.src) : decide (tieO a b < 0) = decide (a.src < b.src) := by
  have h1 : cmpS a.bond b.bond = 0 := cmpS_zero.2 h
  unfold tieO orI
  rw [if_pos h1]
  unfold orI cmpI
  by_cases h3 : a.src < b.src
  · simp [h3]
  · have h4 : b.src < a.src := by omega
    simp [h3, h4]
theorem less_dst {a b : Tie} (h : a.bond = b.bond) (h2 : a.src = b.src) : decide (tieO a b < 0) = decide (a.dst < b.dst) := by
  have h1 : cmpS a.bond b.bond = 0 := cmpS_zero.2 h
  unfold tieO orI
  rw [if_pos h1]
  unfold orI cmpI
  rw [h2]
  by_cases h3 : a.dst < b.dst
  · simp [h3, orI]
  · by_cases h4 : b.dst < a.dst <;> simp [h3, h4, orI]
set_option maxHeartbeats 1000000 in
theorem rless_any (a b : Tie) (w : World) :
    Calls Tryz.prog 38 #[.agg #[.string a.bond, .int .i64 a.src, .int .i64 a.dst], .agg #[.string b.bond, .int .i64 b.src, .int .i64 b.dst]] w fun e w' => e = .returned (.bool (decide (tieO a b < 0))) ∧ Below w.heap.size w w' := by
  have hb0 : Below w.heap.size w ((w.alloc (.cells #[.string a.bond, .int .i64 a.src, .int .i64 a.dst] 72)).alloc (.cells #[.string b.bond, .int .i64 b.src, .int .i64 b.dst] 72)) := ((Below.refl _ _).alloc (Nat.le_refl _) _).alloc (by simp) _
  have hbb : (a.bond.toList == b.bond.toList) = decide (a.bond = b.bond) := bytes_beq a.bond b.bond
  by_cases h1 : a.bond = b.bond
  · rw [decide_eq_true h1] at hbb
    have hbc : a.bond.toList = b.bond.toList := by rw [h1]
    by_cases h2 : a.src = b.src
    · have HE : Hid (decide (tieO a b < 0) = decide (a.dst < b.dst)) := less_dst h1 h2
      have h2b : (a.src != b.src) = false := by simpa using h2
      clear h1 h2
      go_enter Tryz.func38, Tryz.ntmps38
      go_wp2_with fail
      go_ret
      exact ⟨by rw [HE.out]; rfl, hb0⟩
    · have HE : Hid (decide (tieO a b < 0) = decide (a.src < b.src)) := less_src h1 h2
      have h2b : (a.src != b.src) = true := by simpa using h2
      clear h1 h2
      go_enter Tryz.func38, Tryz.ntmps38
      go_wp2_with fail
      go_ret
      exact ⟨by rw [HE.out]; rfl, hb0⟩
  · have HE : Hid (decide (tieO a b < 0) = Op.bytesLess a.bond.toList b.bond.toList) := less_bond h1
    rw [decide_eq_false h1] at hbb
    have hbc : ¬ a.bond.toList = b.bond.toList := by rw [bytes_eq]; exact h1
    clear h1
    go_enter Tryz.func38, Tryz.ntmps38
    go_wp2_with fail
    go_ret
    exact ⟨by rw [HE.out]; rfl, hb0⟩
end Go.Proofs.YtpfpgmfdcafpnaaGreatDoor
