/- Parts: RvA. -/
import Derived.Test.YtflidfmpmakggaaGreatDoorMg08
import Derived.Test.YtflidfmpmakggaaGreatDoorMg17
import Derived.Test.YtflidfmpmakggaaGreatDoorMg07
import Derived.Test.YtflidfmpmakggaaGreatDoorMg16
/- Contract of the reference: kinref1.Read: a text as a value. Condition: the text is not too long. -/
namespace Go.Proofs.YtflidfmpmakggaaGreatDoor
open Go Go.RowKit


theorem ne39 {x : UInt8} (h : x ≠ 39) : ¬ (x.toNat : Int) = 39 := fun e => h (UInt8.toNat_inj.1 (show x.toNat = 39 by omega))
theorem ne45 {x : UInt8} (h : x ≠ 45) : ¬ (x.toNat : Int) = 45 := fun e => h (UInt8.toNat_inj.1 (show x.toNat = 45 by omega))
set_option maxRecDepth 100000 in
set_option maxHeartbeats 8000000 in
theorem rread_any (s : ByteArray) (hs : Sm s) (w : World) :
    Calls Tryz.prog 103 #[.string s] w fun e w' => e = .returned (.tuple #[.agg #[.int .i64 (readV s.data.toList).ty, .int .i64 (readV s.data.toList).n, .string (readV s.data.toList).s], .int .i64 (readE s.data.toList)]) ∧ Below w.heap.size w w' := by
  have hb0 : Below w.heap.size w (w.alloc (.cells #[.int .i64 0, .int .i64 0, .string ⟨#[]⟩] 70)) := (Below.refl _ _).alloc (Nat.le_refl _) _
  have hbk := heap_alloc_new w (.cells #[.int .i64 0, .int .i64 0, .string ⟨#[]⟩] 70)
  unfold Sm at hs
  have eF : (bs falseL).toList = [102, 97, 108, 115, 101] := by decide +kernel
  have eT : (bs trueL).toList = [116, 114, 117, 101] := by decide +kernel
  by_cases ht : s = bs trueL
  · have HE : Hid (readE s.data.toList = 0 ∧ readV s.data.toList = ⟨2, 1, .empty⟩) := by
      unfold Hid; rw [ht, bs_list]; exact ⟨by decide +kernel, by decide +kernel⟩
    have h1 : s.toList = [116, 114, 117, 101] := by rw [ht]; exact eT
    clear hs ht eF eT hb0 hbk
    go_enter Tryz.func103, Tryz.ntmps103
    go_wp2_with fail
    exact bodyPost_ret (v := .tuple #[.agg #[.int .i64 2, .int .i64 1, .string ⟨#[]⟩], .int .i64 0]) (by simp [results, Tryz.results103, go_sem]) rfl ⟨by rw [HE.out.1, HE.out.2]; rfl, ((Below.refl _ _).alloc (Nat.le_refl _) _).alloc (by simp) _⟩
  by_cases hf : s = bs falseL
  · have HE : Hid (readE s.data.toList = 0 ∧ readV s.data.toList = ⟨2, 0, .empty⟩) := by
      unfold Hid; rw [hf, bs_list]; exact ⟨by decide +kernel, by decide +kernel⟩
    have h1 : s.toList = [102, 97, 108, 115, 101] := by rw [hf]; exact eF
    clear hs hf ht eF eT hb0 hbk
    go_enter Tryz.func103, Tryz.ntmps103
    go_wp2_with fail
    exact bodyPost_ret (v := .tuple #[.agg #[.int .i64 2, .int .i64 0, .string ⟨#[]⟩], .int .i64 0]) (by simp [results, Tryz.results103, go_sem]) rfl ⟨by rw [HE.out.1, HE.out.2]; rfl, ((Below.refl _ _).alloc (Nat.le_refl _) _).alloc (by simp) _⟩
  have nF : ¬ s.toList = [102, 97, 108, 115, 101] := fun e => hf (by rw [← bytes_eq, eF]; exact e)
  have nT : ¬ s.toList = [116, 114, 117, 101] := fun e => ht (by rw [← bytes_eq, eT]; exact e)
  have bF : (s.toList == [102, 97, 108, 115, 101]) = false := beq_eq_false_iff_ne.2 nF
  have bT : (s.toList == [116, 114, 117, 101]) = false := beq_eq_false_iff_ne.2 nT
  have lF : s.data.toList ≠ falseL := fun e => hf (by rw [← e, bs_of])
  have lT : s.data.toList ≠ trueL := fun e => ht (by rw [← e, bs_of])
  have hle : s.data.toList.length = s.size := by rw [Array.length_toList]; rfl
  have hE : (s.toList = []) = (s.data.toList = []) := by
    have h := bs_lit (K := s.data.toList) (L := []) (M := []) (by decide +kernel)
    rw [bs_of] at h; exact h
  by_cases h0 : s.size = 0
  · have hnil : s.data.toList = [] := List.length_eq_zero_iff.1 (by omega)
    have b1 : s.toList = [] := by rw [hE]; exact hnil
    have HE : Hid (readE s.data.toList = 2) := by unfold Hid; rw [hnil]; decide +kernel
    have hx := rnumber_any s hs 9 (by omega) (w.alloc (.cells #[.int .i64 0, .int .i64 0, .string ⟨#[]⟩] 70))
    have hn : (numL s.data.toList 9) = none := by rw [hnil]; rfl
    rw [hn] at hx
    have hz : (s.size : Int) = 0 := by omega
    have hz' : ¬ (1 : Int) < (s.size : Int) := by omega
    clear hE hnil lF lT hf ht hn eF eT h0
    go_enter Tryz.func103, Tryz.ntmps103
    go_upto_region 1 with fail
    generalize w.alloc (.cells #[.int .i64 0, .int .i64 0, .string ⟨#[]⟩] 70) = W0 at *
    go_wp2_with fail
    refine hx.mono ?_
    clear hx
    rintro e w9 ⟨n, rfl, _, _, hw⟩
    have hw := hw.symm
    subst hw
    -- a fault: 2: its number; W: w9, its result's box: hbk, above w: hb0
    have HV : Hid (readV s.data.toList = ⟨0, 0, .empty⟩) := readV_bad (by rw [HE.out]; decide)
    obtain ⟨k1, k2, k3, k4⟩ := res3 (.int .i64 0) (.int .i64 0) (.string ⟨#[]⟩) hb0 hbk
    have K := Lib.hid (And.intro k1 (And.intro k2 (And.intro k3 k4)))
    have r0 := block_cell hbk 0
    have r1 := block_cell hbk 1
    have r2 := block_cell hbk 2
    have f0 := block_free hbk 0
    have f1 := block_free hbk 1
    have f2 := block_free hbk 2
    clear k1 k2 k3 k4
    go_wp2_with fail
    obtain ⟨k1, k2, k3, k4⟩ := K.out
    exact bodyPost_ret (v := .tuple #[.agg #[.int .i64 0, .int .i64 0, .string ⟨#[]⟩], .int .i64 2]) (by simp [results, Tryz.results103, go_sem, k2, k3, k4]) rfl ⟨by rw [HE.out, HV.out]; rfl, k1⟩
  have hpos : 0 < s.size := by omega
  have hnn : ¬ s.data.toList = [] := fun e => h0 (by rw [← hle, e]; rfl)
  have b1 : ¬ s.toList = [] := by rw [hE]; exact hnn
  have b2 : (s.toList == []) = false := beq_eq_false_iff_ne.2 b1
  have b3 : s.toList.isEmpty = false := List.isEmpty_eq_false_iff.2 b1
  have hpos' : (0 : Int) < (s.size : Int) := by omega
  have hhd := head_at hpos
  by_cases hq : s[0] = 39
  · have q1 : ((s[0].toNat : Int) == 39) = true := by rw [hq]; rfl
    have q2 : (s[0].toNat : Int) = 39 := by rw [hq]; rfl
    have hl : s.data.toList = 39 :: s.data.toList.drop 1 := by
      have := drop_cons_of (k := 0) (bytes_at s 0 hpos); rw [List.drop_zero, hq] at this; exact this
    have HRE : Hid (readE s.data.toList = match qrd (s.data.toList.drop 1) with | none => 2 | some u => if 20 < u.length then 4 else 0) := by
      have h := read_quote (s.data.toList.drop 1); rw [← hl] at h; exact h
    have HRV : Hid (∀ u, qrd (s.data.toList.drop 1) = some u → ¬ 20 < u.length → readV s.data.toList = ⟨3, 0, bs u⟩) := fun u h1 h2 => by
      have h := readV_quote h1 h2; rw [← hl] at h; exact h
    have HLE := Lib.hid hle
    clear hE hnn lF lT hf ht eF eT h0 hhd hq hl hle
    have ha1 : Below (w.alloc (.cells #[.int .i64 0, .int .i64 0, .string ⟨#[]⟩] 70)).heap.size (w.alloc (.cells #[.int .i64 0, .int .i64 0, .string ⟨#[]⟩] 70)) ((w.alloc (.cells #[.int .i64 0, .int .i64 0, .string ⟨#[]⟩] 70)).alloc (.cells #[.int .i64 3, .int .i64 0, .string ⟨#[]⟩] 70)) := (Below.refl _ _).alloc (Nat.le_refl _) _
    have hb1 := hb0.trans (ha1.mono hb0.size)
    have hbk1 := (ha1.block _ (Array.getElem?_eq_some_iff.1 hbk).1).trans hbk
    have hbx := heap_alloc_new (w.alloc (.cells #[.int .i64 0, .int .i64 0, .string ⟨#[]⟩] 70)) (.cells #[.int .i64 3, .int .i64 0, .string ⟨#[]⟩] 70)
    have hsz : (w.alloc (.cells #[.int .i64 0, .int .i64 0, .string ⟨#[]⟩] 70)).heap.size = w.heap.size + 1 := by simp
    rw [hsz] at hbx
    clear hb0 hbk ha1 hsz
    go_enter Tryz.func103, Tryz.ntmps103
    go_upto_region 8 with fail
    generalize (w.alloc (.cells #[.int .i64 0, .int .i64 0, .string ⟨#[]⟩] 70)).alloc (.cells #[.int .i64 3, .int .i64 0, .string ⟨#[]⟩] 70) = W1 at *
    have HBX := Lib.hid hbx
    have HBK := Lib.hid hbk1
    clear hbx hbk1 q1 q2 b1 b2 b3
    go_wp2_with fail
    go_loopw [6] (fun i wr => ∃ (k : Nat) (u : List UInt8), 1 ≤ k ∧ k ≤ s.size ∧ i = .int .i64 k ∧ u.length ≤ k ∧ Below w.heap.size w wr ∧ Hid (wr.heap[w.heap.size]? = some (.cells #[.int .i64 0, .int .i64 0, .string ⟨#[]⟩] 70 (0, 0))) ∧ Hid (wr.heap[w.heap.size + 1]? = some (.cells #[.int .i64 3, .int .i64 0, .string (bs u)] 70 (0, 0))) ∧ Hid (qrd (s.data.toList.drop 1) = (qrd (s.data.toList.drop k)).map (u ++ ·))) (fun i _ => s.size - (intOf i).toNat)
    case atStart => exact ⟨1, [], Nat.le_refl _, hpos, rfl, by simp, hb1, HBK, HBX, by unfold Hid; simp⟩
    case round =>
      clear hb1 HBX HBK
      obtain ⟨k, u, hk1, hk, rfl, hul, hbr, HR, HQ, HF⟩ := hrel
      obtain ⟨wo, hwo⟩ : ∃ x : World, x = wr := ⟨_, rfl⟩
      subst hwo
      by_cases hlt : k < s.size
      case neg =>
        obtain rfl : k = s.size := by omega
        have HE : Hid (readE s.data.toList = 2) := by
          unfold Hid
          have h := HF.out
          rw [← HLE.out, List.drop_length] at h
          rw [HRE.out, h]; rfl
        clear HF HRE HRV HQ hlt
        -- a fault: 2: its number; W: wo, its result's box: HR.out, above w: hbr
        have HV : Hid (readV s.data.toList = ⟨0, 0, .empty⟩) := readV_bad (by rw [HE.out]; decide)
        obtain ⟨k1, k2, k3, k4⟩ := res3 (.int .i64 0) (.int .i64 0) (.string ⟨#[]⟩) hbr HR.out
        have K := Lib.hid (And.intro k1 (And.intro k2 (And.intro k3 k4)))
        have r0 := block_cell HR.out 0
        have r1 := block_cell HR.out 1
        have r2 := block_cell HR.out 2
        have f0 := block_free HR.out 0
        have f1 := block_free HR.out 1
        have f2 := block_free HR.out 2
        clear k1 k2 k3 k4
        go_wp2_with fail
        obtain ⟨k1, k2, k3, k4⟩ := K.out
        exact bodyPost_ret (v := .tuple #[.agg #[.int .i64 0, .int .i64 0, .string ⟨#[]⟩], .int .i64 2]) (by simp [results, Tryz.results103, go_sem, k2, k3, k4]) rfl ⟨by rw [HE.out, HV.out]; rfl, k1⟩
      have hlt' : (k : Int) < (s.size : Int) := by omega
      have HB := Lib.hid (bytes_at s k hlt)
      have HD := Lib.hid (drop_cons_of HB.out)
      by_cases hlo : (s[k].toNat : Int) < 32
      · have HE : Hid (readE s.data.toList = 2) := by
          unfold Hid
          have h := HF.out
          rw [HD.out, qrd_bad _ (by unfold strC; rw [decide_eq_true hlo]; rfl)] at h
          rw [HRE.out, h]; rfl
        clear HF HRE HRV HQ HB HD
        -- a fault: 2: its number; W: wo, its result's box: HR.out, above w: hbr
        have HV : Hid (readV s.data.toList = ⟨0, 0, .empty⟩) := readV_bad (by rw [HE.out]; decide)
        obtain ⟨k1, k2, k3, k4⟩ := res3 (.int .i64 0) (.int .i64 0) (.string ⟨#[]⟩) hbr HR.out
        have K := Lib.hid (And.intro k1 (And.intro k2 (And.intro k3 k4)))
        have r0 := block_cell HR.out 0
        have r1 := block_cell HR.out 1
        have r2 := block_cell HR.out 2
        have f0 := block_free HR.out 0
        have f1 := block_free HR.out 1
        have f2 := block_free HR.out 2
        clear k1 k2 k3 k4
        go_wp2_with fail
        obtain ⟨k1, k2, k3, k4⟩ := K.out
        exact bodyPost_ret (v := .tuple #[.agg #[.int .i64 0, .int .i64 0, .string ⟨#[]⟩], .int .i64 2]) (by simp [results, Tryz.results103, go_sem, k2, k3, k4]) rfl ⟨by rw [HE.out, HV.out]; rfl, k1⟩
      have hlo' : (32 : Int) ≤ (s[k].toNat : Int) := by omega
      by_cases hhi : (126 : Int) < (s[k].toNat : Int)
      · have HE : Hid (readE s.data.toList = 2) := by
          unfold Hid
          have h := HF.out
          rw [HD.out, qrd_bad _ (by unfold strC; rw [decide_eq_true hhi]; simp)] at h
          rw [HRE.out, h]; rfl
        clear HF HRE HRV HQ HB HD hlo
        -- a fault: 2: its number; W: wo, its result's box: HR.out, above w: hbr
        have HV : Hid (readV s.data.toList = ⟨0, 0, .empty⟩) := readV_bad (by rw [HE.out]; decide)
        obtain ⟨k1, k2, k3, k4⟩ := res3 (.int .i64 0) (.int .i64 0) (.string ⟨#[]⟩) hbr HR.out
        have K := Lib.hid (And.intro k1 (And.intro k2 (And.intro k3 k4)))
        have r0 := block_cell HR.out 0
        have r1 := block_cell HR.out 1
        have r2 := block_cell HR.out 2
        have f0 := block_free HR.out 0
        have f1 := block_free HR.out 1
        have f2 := block_free HR.out 2
        clear k1 k2 k3 k4
        go_wp2_with fail
        obtain ⟨k1, k2, k3, k4⟩ := K.out
        exact bodyPost_ret (v := .tuple #[.agg #[.int .i64 0, .int .i64 0, .string ⟨#[]⟩], .int .i64 2]) (by simp [results, Tryz.results103, go_sem, k2, k3, k4]) rfl ⟨by rw [HE.out, HV.out]; rfl, k1⟩
      have hhi' : (s[k].toNat : Int) ≤ 126 := by omega
      have HS : Hid (strC s[k] = false) := by unfold Hid strC; rw [decide_eq_false hlo, decide_eq_false hhi]; rfl
      by_cases hc : s[k] = 39
      · have q1 : ((s[k].toNat : Int) == 39) = true := by rw [hc]; rfl
        have q2 : (s[k].toNat : Int) = 39 := by rw [hc]; rfl
        by_cases hend : k + 1 = s.size
        · have e1 : ((k : Int) + 1 == (s.size : Int)) = true := by rw [beq_iff_eq]; omega
          have e2 : (k : Int) + 1 = (s.size : Int) := by omega
          have HQR : Hid (qrd (s.data.toList.drop 1) = some u) := by
            have h := HF.out
            rw [HD.out, hend, ← HLE.out, List.drop_length, hc, qrd_end] at h
            unfold Hid; rw [h]; simp
          have x2 := block_cell HQ.out 2
          by_cases h20 : 20 < u.length
          · have hu20 : (20 : Int) < ((bs u).size : Int) := by rw [bs_size]; omega
            have HE : Hid (readE s.data.toList = 4) := by unfold Hid; rw [HRE.out, HQR.out]; exact if_pos h20
            clear HF HRE HRV HB HD hlo hhi HQR hc h20
            -- a fault: 4: its number; W: wo, its result's box: HR.out, above w: hbr
            have HV : Hid (readV s.data.toList = ⟨0, 0, .empty⟩) := readV_bad (by rw [HE.out]; decide)
            obtain ⟨k1, k2, k3, k4⟩ := res3 (.int .i64 0) (.int .i64 0) (.string ⟨#[]⟩) hbr HR.out
            have K := Lib.hid (And.intro k1 (And.intro k2 (And.intro k3 k4)))
            have r0 := block_cell HR.out 0
            have r1 := block_cell HR.out 1
            have r2 := block_cell HR.out 2
            have f0 := block_free HR.out 0
            have f1 := block_free HR.out 1
            have f2 := block_free HR.out 2
            clear k1 k2 k3 k4
            go_wp2_with fail
            obtain ⟨k1, k2, k3, k4⟩ := K.out
            exact bodyPost_ret (v := .tuple #[.agg #[.int .i64 0, .int .i64 0, .string ⟨#[]⟩], .int .i64 4]) (by simp [results, Tryz.results103, go_sem, k2, k3, k4]) rfl ⟨by rw [HE.out, HV.out]; rfl, k1⟩
          · have hu20 : ¬ (20 : Int) < ((bs u).size : Int) := by rw [bs_size]; omega
            have HE : Hid (readE s.data.toList = 0) := by unfold Hid; rw [HRE.out, HQR.out]; exact if_neg h20
            have HV := Lib.hid (HRV.out u HQR.out h20)
            obtain ⟨k1, k2, k3, k4⟩ := res3 (.int .i64 3) (.int .i64 0) (.string (bs u)) hbr HR.out
            have K := Lib.hid (And.intro k1 (And.intro k2 (And.intro k3 k4)))
            have x0 := block_cell HQ.out 0
            have x1 := block_cell HQ.out 1
            have r0 := block_cell HR.out 0
            have r1 := block_cell HR.out 1
            have r2 := block_cell HR.out 2
            have f0 := block_free HR.out 0
            have f1 := block_free HR.out 1
            have f2 := block_free HR.out 2
            clear HF HRE HRV HB HD hlo hhi HQR hc h20 k1 k2 k3 k4
            go_wp2_with fail
            obtain ⟨k1, k2, k3, k4⟩ := K.out
            exact bodyPost_ret (v := .tuple #[.agg #[.int .i64 3, .int .i64 0, .string (bs u)], .int .i64 0]) (by simp [results, Tryz.results103, go_sem, k2, k3, k4]) rfl ⟨by rw [HE.out, HV.out], k1⟩
        · have hlt2 : k + 1 < s.size := by omega
          have e1 : ((k : Int) + 1 == (s.size : Int)) = false := by rw [beq_eq_false_iff_ne]; omega
          have e2 : ¬ (k : Int) + 1 = (s.size : Int) := by omega
          have HB2 := Lib.hid (bytes_at s (k + 1) hlt2)
          have HD2 := Lib.hid (drop_cons_of HB2.out)
          have hlt2' : (k : Int) + 1 < (s.size : Int) := by omega
          by_cases hc2 : s[k + 1] = 39
          · have r1 : ((s[k + 1].toNat : Int) != 39) = false := by rw [hc2]; rfl
            have r2 : (s[k + 1].toNat : Int) = 39 := by rw [hc2]; rfl
            have HB3 : Hid (s.data.toList[k + 1]? = some 39) := by unfold Hid; rw [HB2.out, hc2]
            have HN : Hid (qrd (s.data.toList.drop 1) = (qrd (s.data.toList.drop (k + 1 + 1))).map ((u ++ [39]) ++ ·)) := by
              unfold Hid
              rw [HF.out, HD.out, HD2.out, hc, hc2, qrd_quote, Option.map_map]
              congr 1; funext x; simp
            clear HF HRE HRV HB HD hlo hhi hc hc2 HD2 HB2 hend
            -- a byte more: at the number (k : Int) + 1 (of the natural number k + 1), the byte 39; HB3: it is there; HN: what is read
            have w1 : IntKind.i64.wrap ((k : Int) + 1 + 1) = (k : Int) + 1 + 1 := IntWalk.i64_in _ (by omega)
            have a1 : (0 : Int) ≤ (k : Int) + 1 := by omega
            have a3 : (0 : Int) ≤ (k : Int) + 1 + 1 := by omega
            have a4 : ((k : Int) + 1 + 1).toNat = k + 1 + 1 := by omega
            have a2 : ((k : Int) + 1).toNat = k + 1 := by omega
            have a5 : (k : Int) + 1 + 1 ≤ (s.size : Int) := by omega
            have a7 : (k : Int) + 1 < (s.size : Int) := by omega
            have a6 : (k : Int) + 1 ≤ (k : Int) + 1 + 1 := by omega
            have HX := Lib.hid (ext_one HB3.out)
            have hxs : (s.extract (k + 1) (k + 1 + 1)).size = 1 := by rw [HX.out, bs_size]; rfl
            have hus : (bs u).size ≤ 1048576 := by rw [bs_size]; omega
            have hsum : ¬ 9223372036854775807 < (bs u).size + (s.extract (k + 1) (k + 1 + 1)).size := by omega
            have HU : Hid (bs (u ++ [39]) = bs u ++ s.extract (k + 1) (k + 1 + 1)) := by unfold Hid; rw [HX.out, bs_append]
            have x2 := block_cell HQ.out 2
            have g2 := block_free HQ.out 2
            go_upto_region 16 with fail
            generalize bs u = ub at *
            refine wp_quiet_tail 9 (by kernel_rfl) (by kernel_rfl) ?_
            simp only [List.take_succ_cons, List.take_zero, List.drop_succ_cons, List.drop_zero]
            repeat (go_big_quiet_step (fail))
            refine wpQuiet_nil ?_
            intro _ hw'
            obtain ⟨nq3, hw''⟩ := hw'
            subst hw''
            have HQ2 := setCell_block HQ.out 2 (.string (ub ++ s.extract (k + 1) (k + 1 + 1)))
            -- the next round: k + 1 + 1: the next number; 39: the byte
            go_wp2_with fail
            go_roundw
            case rel => exact ⟨k + 1 + 1, u ++ [39], by omega, by omega, by go_num, by rw [List.length_append]; simp; omega, (below_drewN hbr nq3).setCell (p := ⟨w.heap.size + 1, 2, none⟩) (by show w.heap.size ≤ w.heap.size + 1; omega) _, setCell_other (w := wo.drewN nq3) HR.out (by omega) 2 _, by rw [HU.out]; exact setCell_block (w := wo.drewN nq3) HQ.out 2 _, HN⟩
            case measure => simp [intOf]; omega
          · have r2 : ¬ (s[k + 1].toNat : Int) = 39 := ne39 hc2
            have r1 : ((s[k + 1].toNat : Int) != 39) = true := by rw [bne_iff_ne]; exact r2
            have HE : Hid (readE s.data.toList = 2) := by
              unfold Hid
              have h := HF.out
              rw [HD.out, HD2.out, hc, qrd_wrong _ hc2] at h
              rw [HRE.out, h]; rfl
            clear HF HRE HRV HQ HB HD hlo hhi hc hc2 HD2 HB2 hend
            -- a fault: 2: its number; W: wo, its result's box: HR.out, above w: hbr
            have HV : Hid (readV s.data.toList = ⟨0, 0, .empty⟩) := readV_bad (by rw [HE.out]; decide)
            obtain ⟨k1, k2, k3, k4⟩ := res3 (.int .i64 0) (.int .i64 0) (.string ⟨#[]⟩) hbr HR.out
            have K := Lib.hid (And.intro k1 (And.intro k2 (And.intro k3 k4)))
            have r0 := block_cell HR.out 0
            have r1 := block_cell HR.out 1
            have r2 := block_cell HR.out 2
            have f0 := block_free HR.out 0
            have f1 := block_free HR.out 1
            have f2 := block_free HR.out 2
            clear k1 k2 k3 k4
            go_wp2_with fail
            obtain ⟨k1, k2, k3, k4⟩ := K.out
            exact bodyPost_ret (v := .tuple #[.agg #[.int .i64 0, .int .i64 0, .string ⟨#[]⟩], .int .i64 2]) (by simp [results, Tryz.results103, go_sem, k2, k3, k4]) rfl ⟨by rw [HE.out, HV.out]; rfl, k1⟩
      · have q2 : ¬ (s[k].toNat : Int) = 39 := ne39 hc
        have q1 : ((s[k].toNat : Int) == 39) = false := beq_eq_false_iff_ne.2 q2
        have HN : Hid (qrd (s.data.toList.drop 1) = (qrd (s.data.toList.drop (k + 1))).map ((u ++ [s[k]]) ++ ·)) := by
          unfold Hid
          rw [HF.out, HD.out, qrd_plain _ HS.out hc, Option.map_map]
          congr 1; funext x; simp
        have HB3 := HB
        clear HF HRE HRV HB HD hlo hhi hc
        -- a byte more: at the number (k : Int) (of the natural number k), the byte s[k]; HB3: it is there; HN: what is read
        have w1 : IntKind.i64.wrap ((k : Int) + 1) = (k : Int) + 1 := IntWalk.i64_in _ (by omega)
        have a1 : (0 : Int) ≤ (k : Int) := by omega
        have a3 : (0 : Int) ≤ (k : Int) + 1 := by omega
        have a4 : ((k : Int) + 1).toNat = k + 1 := by omega
        have a2 : ((k : Int)).toNat = k := by omega
        have a5 : (k : Int) + 1 ≤ (s.size : Int) := by omega
        have a7 : (k : Int) < (s.size : Int) := by omega
        have a6 : (k : Int) ≤ (k : Int) + 1 := by omega
        have HX := Lib.hid (ext_one HB3.out)
        have hxs : (s.extract (k) (k + 1)).size = 1 := by rw [HX.out, bs_size]; rfl
        have hus : (bs u).size ≤ 1048576 := by rw [bs_size]; omega
        have hsum : ¬ 9223372036854775807 < (bs u).size + (s.extract (k) (k + 1)).size := by omega
        have HU : Hid (bs (u ++ [s[k]]) = bs u ++ s.extract (k) (k + 1)) := by unfold Hid; rw [HX.out, bs_append]
        have x2 := block_cell HQ.out 2
        have g2 := block_free HQ.out 2
        go_upto_region 16 with fail
        generalize bs u = ub at *
        refine wp_quiet_tail 9 (by kernel_rfl) (by kernel_rfl) ?_
        simp only [List.take_succ_cons, List.take_zero, List.drop_succ_cons, List.drop_zero]
        repeat (go_big_quiet_step (fail))
        refine wpQuiet_nil ?_
        intro _ hw'
        obtain ⟨nq3, hw''⟩ := hw'
        subst hw''
        have HQ2 := setCell_block HQ.out 2 (.string (ub ++ s.extract (k) (k + 1)))
        -- the next round: k + 1: the next number; s[k]: the byte
        go_wp2_with fail
        go_roundw
        case rel => exact ⟨k + 1, u ++ [s[k]], by omega, by omega, by go_num, by rw [List.length_append]; simp; omega, (below_drewN hbr nq3).setCell (p := ⟨w.heap.size + 1, 2, none⟩) (by show w.heap.size ≤ w.heap.size + 1; omega) _, setCell_other (w := wo.drewN nq3) HR.out (by omega) 2 _, by rw [HU.out]; exact setCell_block (w := wo.drewN nq3) HQ.out 2 _, HN⟩
        case measure => simp [intOf]; omega
  · have q2 : ¬ (s[0].toNat : Int) = 39 := ne39 hq
    have q1 : ((s[0].toNat : Int) == 39) = false := beq_eq_false_iff_ne.2 q2
    obtain ⟨p1, p2⟩ := read_num (l := s.data.toList) (by rintro (h | h); exact lF h; exact lT h) (by rw [hhd]; intro e; exact hq (Option.some.inj e))
    have P1 := Lib.hid p1
    have P2 := Lib.hid p2
    clear lF lT hf ht eF eT hE h0 p1 p2
    by_cases hless : s[0] = 45 ∧ 1 < s.size
    · have t1 : ((s[0].toNat : Int) == 45) = true := by rw [hless.1]; rfl
      have t2 : (s[0].toNat : Int) = 45 := by rw [hless.1]; rfl
      have t3 : (1 : Int) < (s.size : Int) := by have := hless.2; omega
      have hX : s.extract 1 s.size = bs (s.data.toList.tail) := by
        rw [ext_list, List.take_of_length_le (by rw [List.length_drop]; omega), List.drop_one]
      have hxs : Sm (s.extract 1 s.size) := by unfold Sm; rw [hX, bs_size, List.length_tail]; omega
      have hx := rnumber_any (s.extract 1 s.size) hxs 9 (by omega) (w.alloc (.cells #[.int .i64 0, .int .i64 0, .string ⟨#[]⟩] 70))
      rw [show (s.extract 1 s.size).data.toList = s.data.toList.tail by rw [hX, bs_list]] at hx
      have HI : Hid (intL9 s.data.toList = (match numL s.data.toList.tail 9 with | some u => if u = 0 then none else some (-(u : Int)) | none => none)) := by
        unfold Hid intL9
        rw [if_pos ⟨by rw [hhd, hless.1], by rw [hle]; exact hless.2⟩]
        rfl
      have HU : Hid (∀ u, numL s.data.toList.tail 9 = some u → I64 (u : Int)) := fun u hu => num_i64 (by omega) hu
      generalize numL s.data.toList.tail 9 = N at *
      clear hhd hless hX hxs hnn hle hq
      cases N with
      | none =>
        have HE : Hid (readE s.data.toList = 2) := by unfold Hid; rw [P1.out, HI.out]
        clear P1 P2 HI HU
        go_enter Tryz.func103, Tryz.ntmps103
        go_upto_region 1 with fail
        generalize w.alloc (.cells #[.int .i64 0, .int .i64 0, .string ⟨#[]⟩] 70) = W0 at *
        go_wp2_with fail
        refine hx.mono ?_
        clear hx
        rintro e w9 ⟨n, rfl, hn1, hn2, hw⟩
        have hw := hw.symm
        subst hw
        clear hn2
        clear hn1 q1 q2 t1 t2 t3
        -- a fault: 2: its number; W: w9, its result's box: hbk, above w: hb0
        have HV : Hid (readV s.data.toList = ⟨0, 0, .empty⟩) := readV_bad (by rw [HE.out]; decide)
        obtain ⟨k1, k2, k3, k4⟩ := res3 (.int .i64 0) (.int .i64 0) (.string ⟨#[]⟩) hb0 hbk
        have K := Lib.hid (And.intro k1 (And.intro k2 (And.intro k3 k4)))
        have r0 := block_cell hbk 0
        have r1 := block_cell hbk 1
        have r2 := block_cell hbk 2
        have f0 := block_free hbk 0
        have f1 := block_free hbk 1
        have f2 := block_free hbk 2
        clear k1 k2 k3 k4
        go_wp2_with fail
        obtain ⟨k1, k2, k3, k4⟩ := K.out
        exact bodyPost_ret (v := .tuple #[.agg #[.int .i64 0, .int .i64 0, .string ⟨#[]⟩], .int .i64 2]) (by simp [results, Tryz.results103, go_sem, k2, k3, k4]) rfl ⟨by rw [HE.out, HV.out]; rfl, k1⟩
      | some u =>
        have hu64 := HU.out u rfl
        unfold I64 at hu64
        by_cases hu0 : u = 0
        · subst hu0
          have HE : Hid (readE s.data.toList = 2) := by unfold Hid; rw [P1.out, HI.out]; rfl
          clear P1 P2 HI HU hu64
          go_enter Tryz.func103, Tryz.ntmps103
          go_upto_region 1 with fail
          generalize w.alloc (.cells #[.int .i64 0, .int .i64 0, .string ⟨#[]⟩] 70) = W0 at *
          go_wp2_with fail
          refine hx.mono ?_
          clear hx
          rintro e w9 ⟨n, rfl, hn1, hn2, hw⟩
          have hw := hw.symm
          subst hw
          clear hn2
          obtain rfl := hn1 0 rfl
          clear hn1 q1 q2 t1 t2 t3
          -- a fault: 2: its number; W: w9, its result's box: hbk, above w: hb0
          have HV : Hid (readV s.data.toList = ⟨0, 0, .empty⟩) := readV_bad (by rw [HE.out]; decide)
          obtain ⟨k1, k2, k3, k4⟩ := res3 (.int .i64 0) (.int .i64 0) (.string ⟨#[]⟩) hb0 hbk
          have K := Lib.hid (And.intro k1 (And.intro k2 (And.intro k3 k4)))
          have r0 := block_cell hbk 0
          have r1 := block_cell hbk 1
          have r2 := block_cell hbk 2
          have f0 := block_free hbk 0
          have f1 := block_free hbk 1
          have f2 := block_free hbk 2
          clear k1 k2 k3 k4
          go_wp2_with fail
          obtain ⟨k1, k2, k3, k4⟩ := K.out
          exact bodyPost_ret (v := .tuple #[.agg #[.int .i64 0, .int .i64 0, .string ⟨#[]⟩], .int .i64 2]) (by simp [results, Tryz.results103, go_sem, k2, k3, k4]) rfl ⟨by rw [HE.out, HV.out]; rfl, k1⟩
        · have hu1 : ((u : Int) == 0) = false := by rw [beq_eq_false_iff_ne]; omega
          have hu2 : ¬ (u : Int) = 0 := by omega
          have HIN : Hid (intL9 s.data.toList = some (-(u : Int))) := by unfold Hid; rw [HI.out]; exact if_neg hu0
          by_cases hbig : 1000000 < u
          · have HE : Hid (readE s.data.toList = 1) := by unfold Hid; rw [P1.out, HIN.out]; exact if_pos (by omega)
            have hbig' : (1000000 : Int) < (u : Int) := by omega
            clear P1 P2 HI HU HIN
            go_enter Tryz.func103, Tryz.ntmps103
            go_upto_region 1 with fail
            generalize w.alloc (.cells #[.int .i64 0, .int .i64 0, .string ⟨#[]⟩] 70) = W0 at *
            go_wp2_with fail
            refine hx.mono ?_
            clear hx
            rintro e w9 ⟨n, rfl, hn1, hn2, hw⟩
            have hw := hw.symm
            subst hw
            clear hn2
            obtain rfl := hn1 u rfl
            clear hn1 q1 q2 t1 t2 t3
            -- a fault: 1: its number; W: w9, its result's box: hbk, above w: hb0
            have HV : Hid (readV s.data.toList = ⟨0, 0, .empty⟩) := readV_bad (by rw [HE.out]; decide)
            obtain ⟨k1, k2, k3, k4⟩ := res3 (.int .i64 0) (.int .i64 0) (.string ⟨#[]⟩) hb0 hbk
            have K := Lib.hid (And.intro k1 (And.intro k2 (And.intro k3 k4)))
            have r0 := block_cell hbk 0
            have r1 := block_cell hbk 1
            have r2 := block_cell hbk 2
            have f0 := block_free hbk 0
            have f1 := block_free hbk 1
            have f2 := block_free hbk 2
            clear k1 k2 k3 k4
            go_wp2_with fail
            obtain ⟨k1, k2, k3, k4⟩ := K.out
            exact bodyPost_ret (v := .tuple #[.agg #[.int .i64 0, .int .i64 0, .string ⟨#[]⟩], .int .i64 1]) (by simp [results, Tryz.results103, go_sem, k2, k3, k4]) rfl ⟨by rw [HE.out, HV.out]; rfl, k1⟩
          · have HE : Hid (readE s.data.toList = 0) := by unfold Hid; rw [P1.out, HIN.out]; exact if_neg (by omega)
            have hbig' : ¬ (1000000 : Int) < (u : Int) := by omega
            clear HU
            go_enter Tryz.func103, Tryz.ntmps103
            go_upto_region 1 with fail
            generalize w.alloc (.cells #[.int .i64 0, .int .i64 0, .string ⟨#[]⟩] 70) = W0 at *
            go_wp2_with fail
            refine hx.mono ?_
            clear hx
            rintro e w9 ⟨n, rfl, hn1, hn2, hw⟩
            have hw := hw.symm
            subst hw
            clear hn2
            obtain rfl := hn1 u rfl
            clear q1 q2 t1 t2 t3
            -- the number -(n : Int) is read
            have HV := Lib.hid (P2.out (-(n : Int)) HIN.out HE.out)
            obtain ⟨k1, k2, k3, k4⟩ := res3 (.int .i64 1) (.int .i64 (-(n : Int))) (.string ⟨#[]⟩) hb0 hbk
            have K := Lib.hid (And.intro k1 (And.intro k2 (And.intro k3 k4)))
            have r0 := block_cell hbk 0
            have r1 := block_cell hbk 1
            have r2 := block_cell hbk 2
            have f0 := block_free hbk 0
            have f1 := block_free hbk 1
            have f2 := block_free hbk 2
            clear k1 k2 k3 k4 P1 P2 HI HIN hn1
            go_wp2_with fail
            obtain ⟨k1, k2, k3, k4⟩ := K.out
            exact bodyPost_ret (v := .tuple #[.agg #[.int .i64 1, .int .i64 (-(n : Int)), .string ⟨#[]⟩], .int .i64 0]) (by simp [results, Tryz.results103, go_sem, k2, k3, k4]) rfl ⟨by rw [HE.out, HV.out]; rfl, k1⟩
    · have hx := rnumber_any s hs 9 (by omega) (w.alloc (.cells #[.int .i64 0, .int .i64 0, .string ⟨#[]⟩] 70))
      have HI : Hid (intL9 s.data.toList = (numL s.data.toList 9).map fun (u : Nat) => (u : Int)) := by
        unfold Hid intL9
        rw [if_neg (fun h => hless ⟨Option.some.inj (by rw [← hhd]; exact h.1), by rw [← hle]; exact h.2⟩)]
      have HU : Hid (∀ u, numL s.data.toList 9 = some u → I64 (u : Int)) := fun u hu => num_i64 (by omega) hu
      obtain ⟨qb, hqb⟩ : ∃ qb, decide ((1 : Int) < (s.size : Int)) = qb := ⟨_, rfl⟩
      have hq45 : qb = true → ¬ s[0] = 45 := fun h e => by
        rw [h, decide_eq_true_eq] at hqb
        exact hless ⟨e, by omega⟩
      generalize numL s.data.toList 9 = N at *
      clear hhd hless hnn hle hq
      cases qb with
      | true =>
        have t1 := of_decide_eq_true hqb
        have t2 := ne45 (hq45 rfl)
        have t3 : ((s[0].toNat : Int) == 45) = false := beq_eq_false_iff_ne.2 t2
        clear hq45 hqb
        cases N with
        | none =>
          have HE : Hid (readE s.data.toList = 2) := by unfold Hid; rw [P1.out, HI.out]; rfl
          clear P1 P2 HI HU
          go_enter Tryz.func103, Tryz.ntmps103
          go_upto_region 1 with fail
          generalize w.alloc (.cells #[.int .i64 0, .int .i64 0, .string ⟨#[]⟩] 70) = W0 at *
          go_wp2_with fail
          refine hx.mono ?_
          clear hx
          rintro e w9 ⟨n, rfl, hn1, hn2, hw⟩
          have hw := hw.symm
          subst hw
          clear hn2
          clear hn1 q1 q2 t1 t2 t3
          -- a fault: 2: its number; W: w9, its result's box: hbk, above w: hb0
          have HV : Hid (readV s.data.toList = ⟨0, 0, .empty⟩) := readV_bad (by rw [HE.out]; decide)
          obtain ⟨k1, k2, k3, k4⟩ := res3 (.int .i64 0) (.int .i64 0) (.string ⟨#[]⟩) hb0 hbk
          have K := Lib.hid (And.intro k1 (And.intro k2 (And.intro k3 k4)))
          have r0 := block_cell hbk 0
          have r1 := block_cell hbk 1
          have r2 := block_cell hbk 2
          have f0 := block_free hbk 0
          have f1 := block_free hbk 1
          have f2 := block_free hbk 2
          clear k1 k2 k3 k4
          go_wp2_with fail
          obtain ⟨k1, k2, k3, k4⟩ := K.out
          exact bodyPost_ret (v := .tuple #[.agg #[.int .i64 0, .int .i64 0, .string ⟨#[]⟩], .int .i64 2]) (by simp [results, Tryz.results103, go_sem, k2, k3, k4]) rfl ⟨by rw [HE.out, HV.out]; rfl, k1⟩
        | some u =>
          have hu64 := HU.out u rfl
          unfold I64 at hu64
          have HIN : Hid (intL9 s.data.toList = some (u : Int)) := by unfold Hid; rw [HI.out]; rfl
          by_cases hbig : 1000000 < u
          · have HE : Hid (readE s.data.toList = 1) := by unfold Hid; rw [P1.out, HIN.out]; exact if_pos (by omega)
            have hbig' : (1000000 : Int) < (u : Int) := by omega
            clear P1 P2 HI HU HIN
            go_enter Tryz.func103, Tryz.ntmps103
            go_upto_region 1 with fail
            generalize w.alloc (.cells #[.int .i64 0, .int .i64 0, .string ⟨#[]⟩] 70) = W0 at *
            go_wp2_with fail
            refine hx.mono ?_
            clear hx
            rintro e w9 ⟨n, rfl, hn1, hn2, hw⟩
            have hw := hw.symm
            subst hw
            clear hn2
            obtain rfl := hn1 u rfl
            clear hn1 q1 q2 t1 t2 t3
            -- a fault: 1: its number; W: w9, its result's box: hbk, above w: hb0
            have HV : Hid (readV s.data.toList = ⟨0, 0, .empty⟩) := readV_bad (by rw [HE.out]; decide)
            obtain ⟨k1, k2, k3, k4⟩ := res3 (.int .i64 0) (.int .i64 0) (.string ⟨#[]⟩) hb0 hbk
            have K := Lib.hid (And.intro k1 (And.intro k2 (And.intro k3 k4)))
            have r0 := block_cell hbk 0
            have r1 := block_cell hbk 1
            have r2 := block_cell hbk 2
            have f0 := block_free hbk 0
            have f1 := block_free hbk 1
            have f2 := block_free hbk 2
            clear k1 k2 k3 k4
            go_wp2_with fail
            obtain ⟨k1, k2, k3, k4⟩ := K.out
            exact bodyPost_ret (v := .tuple #[.agg #[.int .i64 0, .int .i64 0, .string ⟨#[]⟩], .int .i64 1]) (by simp [results, Tryz.results103, go_sem, k2, k3, k4]) rfl ⟨by rw [HE.out, HV.out]; rfl, k1⟩
          · have HE : Hid (readE s.data.toList = 0) := by unfold Hid; rw [P1.out, HIN.out]; exact if_neg (by omega)
            have hbig' : ¬ (1000000 : Int) < (u : Int) := by omega
            clear HU
            go_enter Tryz.func103, Tryz.ntmps103
            go_upto_region 1 with fail
            generalize w.alloc (.cells #[.int .i64 0, .int .i64 0, .string ⟨#[]⟩] 70) = W0 at *
            go_wp2_with fail
            refine hx.mono ?_
            clear hx
            rintro e w9 ⟨n, rfl, hn1, hn2, hw⟩
            have hw := hw.symm
            subst hw
            clear hn2
            obtain rfl := hn1 u rfl
            clear q1 q2 t1 t2 t3
            -- the number (n : Int) is read
            have HV := Lib.hid (P2.out ((n : Int)) HIN.out HE.out)
            obtain ⟨k1, k2, k3, k4⟩ := res3 (.int .i64 1) (.int .i64 ((n : Int))) (.string ⟨#[]⟩) hb0 hbk
            have K := Lib.hid (And.intro k1 (And.intro k2 (And.intro k3 k4)))
            have r0 := block_cell hbk 0
            have r1 := block_cell hbk 1
            have r2 := block_cell hbk 2
            have f0 := block_free hbk 0
            have f1 := block_free hbk 1
            have f2 := block_free hbk 2
            clear k1 k2 k3 k4 P1 P2 HI HIN hn1
            go_wp2_with fail
            obtain ⟨k1, k2, k3, k4⟩ := K.out
            exact bodyPost_ret (v := .tuple #[.agg #[.int .i64 1, .int .i64 ((n : Int)), .string ⟨#[]⟩], .int .i64 0]) (by simp [results, Tryz.results103, go_sem, k2, k3, k4]) rfl ⟨by rw [HE.out, HV.out]; rfl, k1⟩
      | false =>
        have t1 := of_decide_eq_false hqb
        have t2 : True := trivial
        have t3 : True := trivial
        clear hq45 hqb
        cases N with
        | none =>
          have HE : Hid (readE s.data.toList = 2) := by unfold Hid; rw [P1.out, HI.out]; rfl
          clear P1 P2 HI HU
          go_enter Tryz.func103, Tryz.ntmps103
          go_upto_region 1 with fail
          generalize w.alloc (.cells #[.int .i64 0, .int .i64 0, .string ⟨#[]⟩] 70) = W0 at *
          go_wp2_with fail
          refine hx.mono ?_
          clear hx
          rintro e w9 ⟨n, rfl, hn1, hn2, hw⟩
          have hw := hw.symm
          subst hw
          clear hn2
          clear hn1 q1 q2 t1 t2 t3
          -- a fault: 2: its number; W: w9, its result's box: hbk, above w: hb0
          have HV : Hid (readV s.data.toList = ⟨0, 0, .empty⟩) := readV_bad (by rw [HE.out]; decide)
          obtain ⟨k1, k2, k3, k4⟩ := res3 (.int .i64 0) (.int .i64 0) (.string ⟨#[]⟩) hb0 hbk
          have K := Lib.hid (And.intro k1 (And.intro k2 (And.intro k3 k4)))
          have r0 := block_cell hbk 0
          have r1 := block_cell hbk 1
          have r2 := block_cell hbk 2
          have f0 := block_free hbk 0
          have f1 := block_free hbk 1
          have f2 := block_free hbk 2
          clear k1 k2 k3 k4
          go_wp2_with fail
          obtain ⟨k1, k2, k3, k4⟩ := K.out
          exact bodyPost_ret (v := .tuple #[.agg #[.int .i64 0, .int .i64 0, .string ⟨#[]⟩], .int .i64 2]) (by simp [results, Tryz.results103, go_sem, k2, k3, k4]) rfl ⟨by rw [HE.out, HV.out]; rfl, k1⟩
        | some u =>
          have hu64 := HU.out u rfl
          unfold I64 at hu64
          have HIN : Hid (intL9 s.data.toList = some (u : Int)) := by unfold Hid; rw [HI.out]; rfl
          by_cases hbig : 1000000 < u
          · have HE : Hid (readE s.data.toList = 1) := by unfold Hid; rw [P1.out, HIN.out]; exact if_pos (by omega)
            have hbig' : (1000000 : Int) < (u : Int) := by omega
            clear P1 P2 HI HU HIN
            go_enter Tryz.func103, Tryz.ntmps103
            go_upto_region 1 with fail
            generalize w.alloc (.cells #[.int .i64 0, .int .i64 0, .string ⟨#[]⟩] 70) = W0 at *
            go_wp2_with fail
            refine hx.mono ?_
            clear hx
            rintro e w9 ⟨n, rfl, hn1, hn2, hw⟩
            have hw := hw.symm
            subst hw
            clear hn2
            obtain rfl := hn1 u rfl
            clear hn1 q1 q2 t1 t2 t3
            -- a fault: 1: its number; W: w9, its result's box: hbk, above w: hb0
            have HV : Hid (readV s.data.toList = ⟨0, 0, .empty⟩) := readV_bad (by rw [HE.out]; decide)
            obtain ⟨k1, k2, k3, k4⟩ := res3 (.int .i64 0) (.int .i64 0) (.string ⟨#[]⟩) hb0 hbk
            have K := Lib.hid (And.intro k1 (And.intro k2 (And.intro k3 k4)))
            have r0 := block_cell hbk 0
            have r1 := block_cell hbk 1
            have r2 := block_cell hbk 2
            have f0 := block_free hbk 0
            have f1 := block_free hbk 1
            have f2 := block_free hbk 2
            clear k1 k2 k3 k4
            go_wp2_with fail
            obtain ⟨k1, k2, k3, k4⟩ := K.out
            exact bodyPost_ret (v := .tuple #[.agg #[.int .i64 0, .int .i64 0, .string ⟨#[]⟩], .int .i64 1]) (by simp [results, Tryz.results103, go_sem, k2, k3, k4]) rfl ⟨by rw [HE.out, HV.out]; rfl, k1⟩
          · have HE : Hid (readE s.data.toList = 0) := by unfold Hid; rw [P1.out, HIN.out]; exact if_neg (by omega)
            have hbig' : ¬ (1000000 : Int) < (u : Int) := by omega
            clear HU
            go_enter Tryz.func103, Tryz.ntmps103
            go_upto_region 1 with fail
            generalize w.alloc (.cells #[.int .i64 0, .int .i64 0, .string ⟨#[]⟩] 70) = W0 at *
            go_wp2_with fail
            refine hx.mono ?_
            clear hx
            rintro e w9 ⟨n, rfl, hn1, hn2, hw⟩
            have hw := hw.symm
            subst hw
            clear hn2
            obtain rfl := hn1 u rfl
            clear q1 q2 t1 t2 t3
            -- the number (n : Int) is read
            have HV := Lib.hid (P2.out ((n : Int)) HIN.out HE.out)
            obtain ⟨k1, k2, k3, k4⟩ := res3 (.int .i64 1) (.int .i64 ((n : Int))) (.string ⟨#[]⟩) hb0 hbk
            have K := Lib.hid (And.intro k1 (And.intro k2 (And.intro k3 k4)))
            have r0 := block_cell hbk 0
            have r1 := block_cell hbk 1
            have r2 := block_cell hbk 2
            have f0 := block_free hbk 0
            have f1 := block_free hbk 1
            have f2 := block_free hbk 2
            clear k1 k2 k3 k4 P1 P2 HI HIN hn1
            go_wp2_with fail
            obtain ⟨k1, k2, k3, k4⟩ := K.out
            exact bodyPost_ret (v := .tuple #[.agg #[.int .i64 1, .int .i64 ((n : Int)), .string ⟨#[]⟩], .int .i64 0]) (by simp [results, Tryz.results103, go_sem, k2, k3, k4]) rfl ⟨by rw [HE.out, HV.out]; rfl, k1⟩
end Go.Proofs.YtflidfmpmakggaaGreatDoor
