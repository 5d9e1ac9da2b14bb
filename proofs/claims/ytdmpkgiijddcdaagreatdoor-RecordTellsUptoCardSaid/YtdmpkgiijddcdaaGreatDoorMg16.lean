/- Parts: TrA, TrB, TxI, TxJ, TxK, Numb, NrA. -/
import Derived.Test.YtdmpkgiijddcdaaGreatDoorMg13
import Derived.Test.YtdmpkgiijddcdaaGreatDoorMg15
import Derived.Test.YtdmpkgiijddcdaaGreatDoorMg11
import Derived.Test.YtdmpkgiijddcdaaGreatDoorMg02
import Derived.Deep.DeepCutAuto
import Derived.BigRegion
import Derived.Test.YtdmpkgiijddcdaaGreatDoorMg05
import Derived.Test.YtdmpkgiijddcdaaGreatDoorMg01
import Derived.Test.YtdmpkgiijddcdaaGreatDoorRows
import Derived.Deep.RegionLaw
import Derived.Test.YtdmpkgiijddcdaaGreatDoorMg14
import Derived.IntWalk
/- Contracts: text.readNode: a node of a line. Conditions: what the library's texts lean on (TxOk); the text is not too long. -/
namespace Go.Proofs.YtdmpkgiijddcdaaGreatDoor
open Go Go.RowKit



theorem num_i64 {l : List UInt8} {m u : Nat} (hm : m ≤ 9) (h : numL l m = some u) : I64 (u : Int) := by
  have h1 := (numL_iff.1 h).1
  exact atoi_range (atoi_back (u : Int) (by rw [itoa_nat, digits_trim, ← h1]; have := (numL_iff.1 h).2; omega))

theorem setCell_other {w : World} {k q : Nat} {o : Obj} (h : w.heap[k]? = some o) (hne : k ≠ q) (i : Nat) (v : Value) : (w.setCell ⟨q, i, none⟩ v).heap[k]? = some o := (Below.heap_setCell w ⟨q, i, none⟩ v k hne).trans h

section
variable {b : Nat} {g : Grf} {An At : Option Addr} {cn ct : Nat} {xs : List Value} {pre : List (List UInt8)} {W W5 : World}
end

theorem bs_lit {K L M : List UInt8} (h : (bs L).toList = M) : ((bs K).toList = M) = (K = L) := propext
  ⟨fun e => by
    have e2 : bs K = bs L := by rw [← bytes_eq, h]; exact e
    simpa [bs] using congrArg (·.data.toList) e2, fun e => by rw [e]; exact h⟩
section
variable {b B : Nat} {w W X V : World} {g : Grf} {An At : Option Addr} {cn ct : Nat} {xs : List Value} {pre : List (List UInt8)}
end

/-- A step of a region that draws, as it stands. -/
theorem step_here {P : Program} {ops : Array Oper} {o : Oper} {a : Act} {w : World} {K : Act → World → Prop} {Q : Exit → Act → World → Prop} {E : Prop} (hg : o.guard = none) (h : Oper.wp P o a w K Q) :
    if Region.wanted o (yielded ops a.tmps) = true then Oper.wp P o a w K Q else E := by
  rw [if_pos (by simp [Region.wanted, hg])]; exact h

theorem numL_bad {l : List UInt8} {m : Nat} (h : l = [] ∨ m < l.length ∨ (l.head? = some 48 ∧ 1 < l.length)) : numL l m = none := by unfold numL; rw [if_pos h]
theorem numL_go {l : List UInt8} {m : Nat} (h : ¬ (l = [] ∨ m < l.length ∨ (l.head? = some 48 ∧ 1 < l.length))) : numL l m = Lib.decFrom 0 l := by unfold numL; rw [if_neg h]
theorem head_at {s : ByteArray} (h : 0 < s.size) : s.data.toList.head? = some s[0] := by
  have := bytes_at s 0 h
  rw [← List.head?_eq_getElem?] at this; exact this
set_option maxHeartbeats 4000000 in
theorem rnumber_any (s : ByteArray) (hs : Sm s) (m : Nat) (hm : m ≤ 9) (w : World) :
    Calls Tryz.prog 68 #[.string s, .int .i64 (m : Int)] w fun e w' => ∃ n : Nat, e = .returned (.tuple #[.int .i64 (n : Int), .bool (numL s.data.toList m).isSome]) ∧ (∀ u, numL s.data.toList m = some u → n = u) ∧ (numL s.data.toList m = none → n = 0) ∧ w' = w := by
  have hle : s.data.toList.length = s.size := by rw [Array.length_toList]; rfl
  unfold Sm at hs
  have hE : (s.toList = []) = (s.data.toList = []) := by
    have h := bs_lit (K := s.data.toList) (L := []) (M := []) (by decide +kernel)
    rw [bs_of] at h; exact h
  by_cases h0 : s.size = 0
  · have hnil : s.data.toList = [] := List.length_eq_zero_iff.1 (by omega)
    have b1 : s.toList = [] := by rw [hE]; exact hnil
    have b2 : (s.toList == []) = true := by rw [b1]; rfl
    have b3 : s.toList.isEmpty = true := by rw [b1]; rfl
    clear hE h0 hs hle hm
    -- the answer: none
    have HE := Lib.hid (numL_bad (l := s.data.toList) (m := m) (.inl hnil))
    go_enter Tryz.func68, Tryz.ntmps68
    go_wp2_with fail
    go_ret2
    exact ⟨0, by rw [HE.out]; rfl, (fun u hu => by rw [HE.out] at hu; cases hu), (fun _ => rfl), rfl⟩
  have hnn : ¬ s.data.toList = [] := fun e => h0 (by rw [← hle, e]; rfl)
  have b1 : ¬ s.toList = [] := by rw [hE]; exact hnn
  have b2 : (s.toList == []) = false := beq_eq_false_iff_ne.2 b1
  have b3 : s.toList.isEmpty = false := List.isEmpty_eq_false_iff.2 b1
  by_cases hlm : m < s.size
  · have hlm' : (m : Int) < (s.size : Int) := by omega
    have hlm2 : m < s.data.toList.length := by omega
    clear hE h0 hs hle hm hlm hnn
    -- the answer: none
    have HE := Lib.hid (numL_bad (l := s.data.toList) (m := m) (.inr (.inl hlm2)))
    go_enter Tryz.func68, Tryz.ntmps68
    go_wp2_with fail
    go_ret2
    exact ⟨0, by rw [HE.out]; rfl, (fun u hu => by rw [HE.out] at hu; cases hu), (fun _ => rfl), rfl⟩
  have hlm' : ¬ (m : Int) < (s.size : Int) := by omega
  have hpos : 0 < s.size := by omega
  have hhd := head_at hpos
  have hpos' : (0 : Int) < (s.size : Int) := by omega
  by_cases h48 : s[0] = 48 ∧ 1 < s.size
  · have c1 : ((s[0].toNat : Int) == 48) = true := by rw [h48.1]; rfl
    have c1' : (s[0].toNat : Int) = 48 := by rw [h48.1]; rfl
    have c2 : (1 : Int) < (s.size : Int) := by have := h48.2; omega
    have hbd : s.data.toList = [] ∨ m < s.data.toList.length ∨ (s.data.toList.head? = some 48 ∧ 1 < s.data.toList.length) := .inr (.inr ⟨by rw [hhd, h48.1], by rw [hle]; exact h48.2⟩)
    clear hE h0 hs hle hm hlm hnn hhd h48
    -- the answer: none
    have HE := Lib.hid (numL_bad (l := s.data.toList) (m := m) hbd)
    go_enter Tryz.func68, Tryz.ntmps68
    go_wp2_with fail
    go_ret2
    exact ⟨0, by rw [HE.out]; rfl, (fun u hu => by rw [HE.out] at hu; cases hu), (fun _ => rfl), rfl⟩
  have HG : Hid (numL s.data.toList m = Lib.decFrom 0 s.data.toList) := numL_go (by
    rintro (h | h | ⟨h, h2⟩)
    · exact hnn h
    · omega
    · rw [hhd] at h; exact h48 ⟨Option.some.inj h, by omega⟩)
  have hs9 : s.size ≤ 9 := by omega
  have HLE := Lib.hid hle
  obtain ⟨qb, hq⟩ : ∃ qb, ((s[0].toNat : Int) == 48) = qb := ⟨_, rfl⟩
  have hqc : qb = true → ¬ (1 : Int) < (s.size : Int) := fun h => by
    rw [h] at hq
    have h1 : (s[0].toNat : Int) = 48 := by simpa using hq
    have h2 : s[0] = 48 := UInt8.toNat_inj.1 (by have : s[0].toNat = 48 := by omega
                                                 rw [this]; rfl)
    intro h3
    exact h48 ⟨h2, by omega⟩
  clear hE h0 hs hle hm hlm hnn hhd h48
  cases qb with
  | true =>
    have hq2 : (s[0].toNat : Int) = 48 := by simpa using hq
    have h1 := hqc rfl
    have h1d : decide ((1 : Int) < (s.size : Int)) = false := decide_eq_false h1
    clear hqc
    go_enter Tryz.func68, Tryz.ntmps68
    go_wp2_with fail
    clear hq hq2
    go_loop [6, 7] (fun av i => ∃ (k a : Nat), k ≤ s.size ∧ i = .int .i64 k ∧ av = .int .i64 (a : Int) ∧ Hid (a < 10 ^ k) ∧ Hid (Lib.decFrom 0 s.data.toList = Lib.decFrom a (s.data.toList.drop k))) (fun _ i => s.size - (intOf i).toNat)
    case atStart => exact ⟨0, 0, Nat.zero_le _, rfl, rfl, (by unfold Hid; omega), by rw [List.drop_zero]; rfl⟩
    case round =>
      obtain ⟨k, a, hk, rfl, rfl, HA, HF⟩ := hrel
      by_cases hlt : k < s.size
      · have hlt' : (k : Int) < (s.size : Int) := by omega
        have HB := Lib.hid (bytes_at s k hlt)
        have hD := drop_cons_of HB.out
        by_cases hlo : (s[k].toNat : Int) < 48
        · have HN : Hid (numL s.data.toList m = none) := by unfold Hid; rw [HG.out, HF.out, hD, decFrom_bad (digit_none (.inl (by omega)))]
          clear hD HF HB HA
          go_wp2_with fail
          go_ret2
          exact ⟨0, by rw [HN.out]; rfl, (fun u hu => by rw [HN.out] at hu; cases hu), (fun _ => rfl), rfl⟩
        · have hlo' : (48 : Int) ≤ (s[k].toNat : Int) := by omega
          by_cases hhi : (57 : Int) < (s[k].toNat : Int)
          · have HN : Hid (numL s.data.toList m = none) := by unfold Hid; rw [HG.out, HF.out, hD, decFrom_bad (digit_none (.inr (by omega)))]
            clear hD HF HB HA hlo
            go_wp2_with fail
            go_ret2
            exact ⟨0, by rw [HN.out]; rfl, (fun u hu => by rw [HN.out] at hu; cases hu), (fun _ => rfl), rfl⟩
          · have hhi' : (s[k].toNat : Int) ≤ 57 := by omega
            have HF2 : Hid (Lib.decFrom 0 s.data.toList = Lib.decFrom (a * 10 + (s[k].toNat - 48)) (s.data.toList.drop (k + 1))) := by unfold Hid; rw [HF.out, hD, decFrom_good (digit_some (by omega) (by omega))]
            have ha9 : a < 10 ^ 9 := Nat.lt_of_lt_of_le HA.out (Nat.pow_le_pow_right (by omega) (by omega))
            have ha9' : a < 1000000000 := by simpa using ha9
            have HA2 : Hid (a * 10 + (s[k].toNat - 48) < 10 ^ (k + 1)) := by
              have := HA.out
              unfold Hid; rw [Nat.pow_succ]; omega
            clear hD HF HB HA hlo hhi ha9
            go_wp2_with fail
            go_round
            case rel => exact ⟨k + 1, a * 10 + (s[k].toNat - 48), by omega, by go_num, by go_num, HA2, HF2⟩
            case measure => simp [intOf]; omega
      · obtain rfl : k = s.size := by omega
        have HN : Hid (numL s.data.toList m = some a) := by
          unfold Hid; rw [HG.out, HF.out, ← HLE.out, List.drop_length]; rfl
        go_wp2_with fail
        go_ret2
        exact ⟨a, by rw [HN.out]; rfl, (fun u hu => by rw [HN.out] at hu; exact Option.some.inj hu), (fun h => by rw [HN.out] at h; cases h), rfl⟩
  | false =>
    have hq2 : ¬ (s[0].toNat : Int) = 48 := by simpa using hq
    clear hqc
    go_enter Tryz.func68, Tryz.ntmps68
    go_wp2_with fail
    clear hq hq2
    go_loop [6, 7] (fun av i => ∃ (k a : Nat), k ≤ s.size ∧ i = .int .i64 k ∧ av = .int .i64 (a : Int) ∧ Hid (a < 10 ^ k) ∧ Hid (Lib.decFrom 0 s.data.toList = Lib.decFrom a (s.data.toList.drop k))) (fun _ i => s.size - (intOf i).toNat)
    case atStart => exact ⟨0, 0, Nat.zero_le _, rfl, rfl, (by unfold Hid; omega), by rw [List.drop_zero]; rfl⟩
    case round =>
      obtain ⟨k, a, hk, rfl, rfl, HA, HF⟩ := hrel
      by_cases hlt : k < s.size
      · have hlt' : (k : Int) < (s.size : Int) := by omega
        have HB := Lib.hid (bytes_at s k hlt)
        have hD := drop_cons_of HB.out
        by_cases hlo : (s[k].toNat : Int) < 48
        · have HN : Hid (numL s.data.toList m = none) := by unfold Hid; rw [HG.out, HF.out, hD, decFrom_bad (digit_none (.inl (by omega)))]
          clear hD HF HB HA
          go_wp2_with fail
          go_ret2
          exact ⟨0, by rw [HN.out]; rfl, (fun u hu => by rw [HN.out] at hu; cases hu), (fun _ => rfl), rfl⟩
        · have hlo' : (48 : Int) ≤ (s[k].toNat : Int) := by omega
          by_cases hhi : (57 : Int) < (s[k].toNat : Int)
          · have HN : Hid (numL s.data.toList m = none) := by unfold Hid; rw [HG.out, HF.out, hD, decFrom_bad (digit_none (.inr (by omega)))]
            clear hD HF HB HA hlo
            go_wp2_with fail
            go_ret2
            exact ⟨0, by rw [HN.out]; rfl, (fun u hu => by rw [HN.out] at hu; cases hu), (fun _ => rfl), rfl⟩
          · have hhi' : (s[k].toNat : Int) ≤ 57 := by omega
            have HF2 : Hid (Lib.decFrom 0 s.data.toList = Lib.decFrom (a * 10 + (s[k].toNat - 48)) (s.data.toList.drop (k + 1))) := by unfold Hid; rw [HF.out, hD, decFrom_good (digit_some (by omega) (by omega))]
            have ha9 : a < 10 ^ 9 := Nat.lt_of_lt_of_le HA.out (Nat.pow_le_pow_right (by omega) (by omega))
            have ha9' : a < 1000000000 := by simpa using ha9
            have HA2 : Hid (a * 10 + (s[k].toNat - 48) < 10 ^ (k + 1)) := by
              have := HA.out
              unfold Hid; rw [Nat.pow_succ]; omega
            clear hD HF HB HA hlo hhi ha9
            go_wp2_with fail
            go_round
            case rel => exact ⟨k + 1, a * 10 + (s[k].toNat - 48), by omega, by go_num, by go_num, HA2, HF2⟩
            case measure => simp [intOf]; omega
      · obtain rfl : k = s.size := by omega
        have HN : Hid (numL s.data.toList m = some a) := by
          unfold Hid; rw [HG.out, HF.out, ← HLE.out, List.drop_length]; rfl
        go_wp2_with fail
        go_ret2
        exact ⟨a, by rw [HN.out]; rfl, (fun u hu => by rw [HN.out] at hu; exact Option.some.inj hu), (fun h => by rw [HN.out] at h; cases h), rfl⟩
end Go.Proofs.YtdmpkgiijddcdaaGreatDoor
