/- Parts: VQuo. -/
import Derived.Test.YtmbeeaohidgfgaaDoorMg19
/- The law ValueQuotes, of the walks' contracts. Conditions: what the library's texts lean on (TxOk); the text is not too long. -/
namespace Go.Proofs.YtmbeeaohidgfgaaDoor
open Go Go.RowKit

set_option maxRecDepth 100000 in
set_option maxHeartbeats 4000000 in
theorem valueQuotes_any (s : ByteArray) (w : World) (hT : TxOk w) (hs : Sm s) : Calls Tryd.prog 4 #[.string s] w fun e w' => e = .returned (.bool true) ∧ Below w.heap.size w w' := by
  have hb0 : Below w.heap.size w (w.alloc (.cells #[.int .i64 3, .int .i64 0, .string s] 34)) := (Below.refl _ _).alloc (Nat.le_refl _) _
  have hbk := heap_alloc_new w (.cells #[.int .i64 3, .int .i64 0, .string s] 34)
  have hle : s.data.toList.length = s.size := by rw [Array.length_toList]; rfl
  have HT := Lib.hid (hT.below hb0)
  have hpr := fun wx hw => vprint_any ⟨3, 0, s⟩ ⟨by show I64 3; unfold I64; omega, by show I64 0; unfold I64; omega, hs⟩ wx hw
  have hVE : Hid (valE ⟨3, 0, s⟩ = 0 ↔ (s.size ≤ 20 ∧ s.data.toList.any strC = false)) := by
    unfold Hid valE valLo valHi
    cases hq : s.data.toList.any strC with
    | true => simp; split <;> omega
    | false => simp
  have hsn : s.size ≤ 1048576 := hs
  obtain ⟨E, hE⟩ : ∃ E, E = valE ⟨3, 0, s⟩ := ⟨_, rfl⟩
  have HEE := Lib.hid hE
  obtain ⟨L, hL⟩ : ∃ L, L = (if valE ⟨3, 0, s⟩ = 0 then showL ⟨3, 0, s⟩ else []) := ⟨_, rfl⟩
  have HL := Lib.hid hL
  rw [← hE] at hVE hL HL hpr
  rw [← hL] at hpr
  have hpa : Hid (E = 0 → ∀ wx, TxOk wx → Calls Tryd.prog 10 #[.string (bs L)] wx fun e w' => e = .returned (.tuple #[.agg #[.int .i64 3, .int .i64 0, .string s], .nilIface]) ∧ Below wx.heap.size wx w') := by
    intro h0 wx hw
    have hll : L = showL ⟨3, 0, s⟩ := by rw [HL.out, if_pos h0]
    have hv : valE ⟨3, 0, s⟩ = 0 := by rw [← HEE.out]; exact h0
    obtain ⟨r1, r2⟩ := read_show hv
    have hlen := show_len hv
    have := vparse_any (bs L) (by unfold Sm; rw [bs_size, hll]; omega) wx hw
    rw [bs_list, hll, r1, r2] at this
    rw [hll]
    exact this
  have hlen : Hid (E = 0 → s.size + 2 ≤ (bs L).size ∧ (bs L).size ≤ 42) := by
    intro h0
    have hv : valE ⟨3, 0, s⟩ = 0 := by rw [← HEE.out]; exact h0
    have h1 := show_len hv
    rw [bs_size, HL.out, if_pos h0]
    refine ⟨?_, h1⟩
    rw [show_text rfl]
    have := dbl_len s.data.toList
    show _ ≤ (39 :: (dbl s.data.toList ++ [39])).length
    simp only [List.length_cons, List.length_append, List.length_nil]
    omega
  generalize bs L = t at *
  clear hT hs hE hL HEE HL
  go_enter Tryd.func4, Tryd.ntmps4
  go_wp2_with fail
  generalize w.alloc (.cells #[.int .i64 3, .int .i64 0, .string s] 34) = W0 at *
  have x0 := block_cell hbk 0
  have x1 := block_cell hbk 1
  have x2 := block_cell hbk 2
  go_loop [4, 5] (fun b i => ∃ k : Nat, k ≤ s.size ∧ i = .int .i64 k ∧ b = .bool (decide (s.size ≤ 20) && !(s.data.toList.take k).any strC)) (fun _ i => s.size - (intOf i).toNat)
  case atStart => exact ⟨0, Nat.zero_le _, rfl, by
    have : decide ((s.size : Int) ≤ 20) = decide (s.size ≤ 20) := by rw [decide_eq_decide]; omega
    simp [this]⟩
  case round =>
    obtain ⟨k, hk, rfl, rfl⟩ := hrel
    by_cases hlt : k < s.size
    · have hlt' : (k : Int) < (s.size : Int) := by omega
      have HN : Hid ((s.data.toList.take (k + 1)).any strC = ((s.data.toList.take k).any strC || strC s[k])) := by
        unfold Hid
        have hd : s.data.toList[k]? = some s[k] := by
          rw [List.getElem?_eq_getElem (by omega)]; rfl
        rw [List.take_add_one, hd, List.any_append]
        simp
      have HC : Hid (strC s[k] = (decide ((s[k].toNat : Int) < 32) || decide (126 < (s[k].toNat : Int)))) := rfl
      obtain ⟨q, hq⟩ : ∃ q, q = (decide (s.size ≤ 20) && !(s.data.toList.take k).any strC) := ⟨_, rfl⟩
      have HQ := Lib.hid hq
      rw [← hq]
      have HR : Hid ((decide (s.size ≤ 20) && !(s.data.toList.take (k + 1)).any strC) = (q && !strC s[k])) := by
        unfold Hid
        rw [HN.out, HQ.out]
        cases decide (s.size ≤ 20) <;> cases (s.data.toList.take k).any strC <;> cases strC s[k] <;> rfl
      clear hq hk x0 x1 x2
      cases q with
      | false =>
        go_wp2_with fail
        go_round
        case rel => exact ⟨k + 1, by omega, by go_num, by rw [HR.out]; rfl⟩
        case measure => simp [intOf]; omega
      | true =>
        by_cases h1 : (32 : Int) ≤ (s[k].toNat : Int)
        · by_cases h2 : (s[k].toNat : Int) ≤ 126
          · have HF : Hid (strC s[k] = false) := by unfold Hid; rw [HC.out]; simp; omega
            go_wp2_with fail
            go_round
            case rel => exact ⟨k + 1, by omega, by go_num, by rw [HR.out, HF.out]; rfl⟩
            case measure => simp [intOf]; omega
          · have HF : Hid (strC s[k] = true) := by unfold Hid; rw [HC.out]; simp; omega
            have h2' : decide ((s[k].toNat : Int) ≤ 126) = false := decide_eq_false h2
            go_wp2_with fail
            go_round
            case rel => exact ⟨k + 1, by omega, by go_num, by rw [HR.out, HF.out]; rfl⟩
            case measure => simp [intOf]; omega
        · have HF : Hid (strC s[k] = true) := by unfold Hid; rw [HC.out]; simp; omega
          have h1' : decide ((32 : Int) ≤ (s[k].toNat : Int)) = false := decide_eq_false h1
          go_wp2_with fail
          go_round
          case rel => exact ⟨k + 1, by omega, by go_num, by rw [HR.out, HF.out]; rfl⟩
          case measure => simp [intOf]; omega
    · obtain rfl : k = s.size := by omega
      have hdn : decide (s.size < s.size) = false := by simp
      have HQ : Hid ((decide (s.size ≤ 20) && !(s.data.toList.take s.size).any strC) = decide (E = 0)) := by
        unfold Hid
        rw [← hle, List.take_length, hle, Bool.eq_iff_iff, decide_eq_true_eq, hVE.out]
        simp
      rw [HQ.out]
      have hx := hpr W0 HT.out.toTxP
      clear hpr hk hlt hle
      by_cases h0 : E = 0
      · have hq : decide (E = 0) = true := decide_eq_true h0
        rw [hq]
        obtain ⟨l1, l2⟩ := hlen.out h0
        have hpx := hpa.out h0
        rw [errV_zero h0] at hx
        clear hq h0 hlen hpa hVE HQ
        go_wp2_with fail
        refine hx.mono ?_
        clear hx
        rintro e w1 ⟨rfl, hb1⟩
        have hbk1 := (hb1.block _ (Array.getElem?_eq_some_iff.1 hbk).1).trans hbk
        have hB1 := hb0.trans (hb1.mono hb0.size)
        have hy := hpx w1 (HT.out.below hb1)
        clear hpx x0 x1 x2 hbk
        go_wp2_with fail
        refine hy.mono ?_
        clear hy
        rintro e w2 ⟨rfl, hb2⟩
        have hbk2 := (hb2.block _ (Array.getElem?_eq_some_iff.1 hbk1).1).trans hbk1
        have hB2 := hB1.trans (hb2.mono hB1.size)
        have ha2 : Below w2.heap.size w2 (w2.alloc (.cells #[.int .i64 3, .int .i64 0, .string s] 34)) := (Below.refl _ _).alloc (Nat.le_refl _) _
        have hbk3 := (ha2.block _ (Array.getElem?_eq_some_iff.1 hbk2).1).trans hbk2
        have x0 := block_cell hbk3 0
        have x1 := block_cell hbk3 1
        have x2 := block_cell hbk3 2
        clear hbk1 hbk2 hbk3 hb1 hb2
        go_wp2_with fail
        go_ret
        exact ⟨by simp; omega, hB2.trans (ha2.mono hB2.size)⟩
      · have hq : decide (E = 0) = false := decide_eq_false h0
        rw [hq]
        rw [errV_some h0] at hx
        clear hq h0 hlen hpa hVE HQ
        go_wp2_with fail
        refine hx.mono ?_
        clear hx
        rintro e w1 ⟨rfl, hb1⟩
        go_wp2_with fail
        go_ret
        exact ⟨rfl, hb0.trans (hb1.mono hb0.size)⟩
end Go.Proofs.YtmbeeaohidgfgaaDoor
