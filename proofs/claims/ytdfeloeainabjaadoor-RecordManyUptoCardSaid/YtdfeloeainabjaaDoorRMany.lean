/- Contract: the law RecordMany answers true. -/
import Derived.Test.YtdfeloeainabjaaDoorRecT
import Derived.Test.YtdfeloeainabjaaDoorLetters
import Derived.Test.YtdfeloeainabjaaDoorNumb
import Derived.Test.YtdfeloeainabjaaDoorTold
namespace Go.Proofs.YtdfeloeainabjaaDoor
open Go Go.RowKit

def nthP (n k : Nat) : Prp := ⟨lettersB (n - k), ⟨1, (k : Int), .empty⟩⟩
def recRun (n : Nat) : Nat → List Prp
  | 0 => []
  | k + 1 => if setE (recRun n k) (nthP n k) = 0 then setR (recRun n k) (nthP n k) else recRun n k
theorem run_facts : ∀ n, n < 13 → ∀ k, k < n → setE (recRun n k) (nthP n k) = if k < 8 then 0 else 4 := by decide +kernel
theorem again_facts : ∀ n, n < 13 → ∀ q ∈ recRun n n, setE (recRun n n) ⟨q.name, ⟨1, 99, .empty⟩⟩ = 0 ∧ (setR (recRun n n) ⟨q.name, ⟨1, 99, .empty⟩⟩).length = (recRun n n).length ∧
    getE (setR (recRun n n) ⟨q.name, ⟨1, 99, .empty⟩⟩) q.name = 0 ∧ (getV (setR (recRun n n) ⟨q.name, ⟨1, 99, .empty⟩⟩) q.name).n = 99 := by decide +kernel
theorem run_len : ∀ n, n < 13 → (recRun n n).length ≤ 8 := by decide +kernel
theorem letters_sm' (n : Nat) : Sm (lettersB n) := by
  unfold Sm lettersB
  have h : ∀ a, (abc.extract a (a + 1)).size ≤ 1 := fun a => by simp [ByteArray.size_extract]; omega
  have h1 := h (n / 26 % 26)
  have h2 := h (n % 26)
  rw [ByteArray.size_append]; omega
theorem nthP_ok {n k : Nat} (hk : k ≤ 1000) : (nthP n k).ok := ⟨letters_sm' _, by show I64 (1 : Int); unfold I64; omega, by show I64 (k : Int); unfold I64; omega, by show 0 ≤ 1048576; omega⟩

set_option maxRecDepth 100000 in
set_option maxHeartbeats 8000000 in
theorem recordMany_any (n i : Int) (w : World) (hg : GlobOk w) (_hn : I64 n) (_hi : I64 i) :
    Calls Tryd.prog 4 #[.int .i64 n, .int .i64 i] w fun e w' => e = .returned (.bool true) ∧ Below w.heap.size w w' := by
  by_cases hout : n < 0 ∨ 12 < n
  · rcases hout with h | h
    all_goals
      clear hg
      go_enter Tryd.func4, Tryd.ntmps4
      go_wp2_with fail
      all_goals go_ret
      all_goals exact ⟨rfl, Below.refl _ _⟩
  obtain ⟨N, rfl⟩ : ∃ k : Nat, n = k := ⟨n.toNat, by omega⟩
  have hN0 : (0 : Int) ≤ (N : Int) := by omega
  have hN8 : (N : Int) ≤ 12 := by omega
  clear hout
  go_enter Tryd.func4, Tryd.ntmps4
  go_wp2_with fail
  go_loopw [5, 6] (fun v i wr => ∃ (k : Nat), k ≤ N ∧ i = .int .i64 k ∧ Below w.heap.size w wr ∧ Sl prpL wr v (recRun N k)) (fun _ i _ => N - (intOf i).toNat)
  case atStart => exact ⟨0, Nat.zero_le _, rfl, Below.refl _ _, Sl.nil 0 (Nat.zero_le _) none⟩
  case round =>
    obtain ⟨k, hk, rfl, hbr, hsl⟩ := hrel
    by_cases hlt : k < N
    · have hlt' : (k : Int) < (N : Int) := by omega
      have hF := run_facts N (by omega) k hlt
      have hlet := letters_any (N - k) wr (by omega)
      have hc : ((N - k : Nat) : Int) = (N : Int) - (k : Int) := by omega
      rw [hc] at hlet
      have HR : Hid (recRun N (k + 1) = if setE (recRun N k) (nthP N k) = 0 then setR (recRun N k) (nthP N k) else recRun N k) := rfl
      have hpok : (nthP N k).ok := nthP_ok (by omega)
      have HV := Lib.hid hsl
      generalize hrr : recRun N k = r at *
      obtain ⟨A, c, rfl, _, _⟩ := hsl.form
      have HF := Lib.hid hF
      clear hsl hF hc hrr
      go_wp2_with fail
      refine hlet.mono ?_
      clear hlet
      rintro e w2 ⟨rfl, hb2⟩
      have hB2 := hbr.trans (hb2.mono hbr.size)
      go_wp2_with fail
      refine (number_any (k : Int) _).mono ?_
      rintro e w3 ⟨rfl, hb3⟩
      have h23 := hb2.trans (hb3.mono hb2.size)
      have hB3 := hbr.trans (h23.mono hbr.size)
      have hst := set_any r (nthP N k) _ w3 (HV.out.below h23) hpok
      have hset : Calls Tryd.prog 12 #[.slice A r.length c, .agg #[.string (lettersB (N - k)), .int .i64 1, .int .i64 (k : Int), .string .empty]] w3 (RetR (setR r (nthP N k)) (setE r (nthP N k)) w3) := hst
      clear hst hb2 hb3 hB2
      go_wp2_with fail
      refine hset.mono ?_
      clear hset
      rintro e w4 ⟨u, rfl, hu, hb4⟩
      have hB4 := hB3.trans (hb4.mono hB3.size)
      have h24 := h23.trans (hb4.mono h23.size)
      have HU := Lib.hid hu
      by_cases h8 : k < 8
      · have hE : setE r (nthP N k) = 0 := by rw [HF.out, if_pos h8]
        have HN : Hid (recRun N (k + 1) = setR r (nthP N k)) := by unfold Hid; rw [HR.out, if_pos hE]
        have h8' : (k : Int) < 8 := by omega
        have hs := same_any 0 4 w4 (hg.below hB4)
        rw [hE, errV_zero rfl]
        rw [errV_zero rfl] at hs
        generalize setR r (nthP N k) = r' at *
        obtain ⟨A', c', rfl, _, _⟩ := hu.form
        clear hu HR HF hE
        go_wp2_with fail
        refine hs.mono ?_
        clear hs
        rintro e w5 ⟨rfl, hb5⟩
        go_wp2_with fail
        go_roundw
        case rel => exact ⟨k + 1, by omega, by go_num, hB4.trans (hb5.mono hB4.size), by rw [HN.out]; exact HU.out.below hb5⟩
        case measure => simp [intOf]; omega
      · have hE : setE r (nthP N k) = 4 := by rw [HF.out, if_neg h8]
        have HN : Hid (recRun N (k + 1) = r) := by unfold Hid; rw [HR.out, hE]; rfl
        have h8' : (8 : Int) ≤ (k : Int) := by omega
        have hs := same_any 4 4 w4 (hg.below hB4)
        rw [hE]
        have hv4 : errV 4 = .iface 80 (.int .i64 4) := rfl
        rw [hv4] at hs ⊢
        generalize setR r (nthP N k) = r' at *
        obtain ⟨A', c', rfl, _, _⟩ := hu.form
        clear hu HR HF hE hv4
        go_wp2_with fail
        refine hs.mono ?_
        clear hs
        rintro e w5 ⟨rfl, hb5⟩
        go_wp2_with fail
        go_roundw
        case rel => exact ⟨k + 1, by omega, by go_num, hB4.trans (hb5.mono hB4.size), by rw [HN.out]; exact HV.out.below (h24.trans (hb5.mono h24.size))⟩
        case measure => simp [intOf]; omega
    · obtain rfl : k = N := by omega
      have hAF := Lib.hid (again_facts k (by omega))
      have hln := run_len k (by omega)
      generalize recRun k k = r at *
      have HV := Lib.hid hsl
      obtain ⟨A, c, rfl, _, _⟩ := hsl.form
      clear hsl
      have hl8 : (r.length : Int) ≤ 8 := by omega
      by_cases hi2 : i < 0 ∨ (r.length : Int) ≤ i
      · rcases hi2 with h | h
        all_goals
          clear hg
          go_wp2_with fail
          all_goals go_ret
          all_goals exact ⟨rfl, hbr⟩
      · obtain ⟨j, rfl⟩ : ∃ I : Nat, i = I := ⟨i.toNat, by omega⟩
        have hj : (j : Int) < (r.length : Int) := by omega
        obtain ⟨q, hq⟩ : ∃ q, r[j]? = some q := ⟨_, List.getElem?_eq_getElem (by omega)⟩
        obtain ⟨f1, f2, f3, f4⟩ := hAF.out q (List.mem_of_getElem? hq)
        obtain ⟨b, o, rfl, hqok, x0, x1, x2, x3⟩ := prp_at (HV.out.below (Below.refl _ wr)) hq
        have F1 := Lib.hid f1
        have F2 := Lib.hid f2
        have F3 := Lib.hid f3
        have F4 := Lib.hid f4
        have hnok : (⟨q.name, ⟨1, 99, .empty⟩⟩ : Prp).ok := ⟨hqok.1, by show I64 (1 : Int); unfold I64; omega, by show I64 (99 : Int); unfold I64; omega, by show 0 ≤ 1048576; omega⟩
        clear f1 f2 f3 f4 hi2 hq hAF x1 x2 x3
        go_wp2_with fail
        go_region_law
          (first
            | (refine step_call rfl 14 #[.int .i64 99] (by kernel_rfl) _ (number_any _ _) ?_
               intro w2 hb2
               have d0 := cell_below hb2 x0)
            | (refine step_callx rfl 12 #[.slice (some ⟨b, o, none⟩) r.length c, .agg #[.string q.name, .int .i64 1, .int .i64 99, .string .empty]] (by kernel_rfl) (set_any r ⟨q.name, ⟨1, 99, .empty⟩⟩ _ w2 (Sl.below (w := wr.drew) hb2 HV.out) hnok) ?_
               rintro e w3 ⟨u, rfl, hu, hb3⟩
               refine ⟨_, rfl, ?_⟩))
        all_goals
          have hB2 := hbr.trans (((Below.refl wr.heap.size wr).drew.trans hb2).mono hbr.size)
          have hB3 := hB2.trans (hb3.mono hB2.size)
          have y0 := cell_below hb3 d0
          have hget := get_any _ q.name u w3 hu
          rw [F3.out, F4.out, errV_zero rfl] at hget
          rw [F1.out, errV_zero rfl]
          generalize (getV (setR r ⟨q.name, ⟨1, 99, .empty⟩⟩) q.name).ty = gt at *
          generalize (getV (setR r ⟨q.name, ⟨1, 99, .empty⟩⟩) q.name).s = gs at *
          obtain ⟨A3, c3, rfl, _, _⟩ := hu.form
          rw [F2.out] at hget ⊢
          clear hu d0 x0 hb2 hb3
          go_wp2_with fail
          refine hget.mono ?_
          clear hget
          rintro e w4 ⟨rfl, hb4⟩
          have hB4 := hB3.trans (hb4.mono hB3.size)
          go_wp2_with fail
          go_ret
          exact ⟨by simp, hB4.alloc hB4.size _⟩
end Go.Proofs.YtdfeloeainabjaaDoor
