/- Contract of the references: kinref1.Kinds: the first one that is wrong. -/
import Derived.Test.YtdfeloeainabjaaDoorRefF
namespace Go.Proofs.YtdfeloeainabjaaDoor
open Go Go.RowKit

set_option maxRecDepth 100000 in
set_option maxHeartbeats 4000000 in
theorem rkinds_any (l : List Knd) (v : Value) (w : World) (hv : Sl kndL w v l) :
    Calls Tryd.prog 21 #[v] w fun e w' => e = .returned (.tuple #[.string (checkE l).1, .int .i64 (checkE l).2]) ∧ Below w.heap.size w w' := by
  obtain ⟨A, c, rfl, hlc, hcA⟩ := hv.form
  unfold maxLen at hcA
  have hlm : (l.length : Int) ≤ 9223372036854775807 := by omega
  by_cases h12 : 12 < l.length
  · have HE : Hid (checkE l = (.empty, 4)) := by unfold Hid checkE; rw [if_pos h12]
    have h12' : (12 : Int) < (l.length : Int) := by omega
    clear hv
    go_enter Tryd.func21, Tryd.ntmps21
    go_wp2_with fail
    go_ret2
    exact ⟨by rw [HE.out]; rfl, Below.refl _ _⟩
  have h12' : (l.length : Int) ≤ 12 := by omega
  have HE0 : Hid (checkE l = kindsE [] l) := by unfold Hid checkE; rw [if_neg h12]
  go_enter Tryd.func21, Tryd.ntmps21
  go_wp2_with fail
  go_loopw [4] (fun i wr => ∃ j : Nat, j ≤ l.length ∧ i = .int .i64 j ∧ Below w.heap.size w wr ∧ Hid (kindsE [] l = kindsE (l.take j) (l.drop j)) ∧ Hid (Wf (l.take j) ∧ ∀ x ∈ l.take j, x.fields.length ≤ 8)) (fun i _ => l.length - (intOf i).toNat)
  case atStart => exact ⟨0, Nat.zero_le _, rfl, Below.refl _ _, rfl, fun i k hk => by simp at hk, fun x hx => by simp at hx⟩
  case round =>
    obtain ⟨j, hj, rfl, hbr, HR, HS⟩ := hrel
    by_cases hlt : j < l.length
    · obtain ⟨k, hk⟩ : ∃ k, l[j]? = some k := ⟨_, List.getElem?_eq_getElem hlt⟩
      obtain ⟨b, o, hAe, u, x, hnm, hso, hsf, c0, c1, c2⟩ := knd_at (hv.below hbr) hk
      subst hAe
      have hlt' : (j : Int) < (l.length : Int) := by omega
      have hone := rkind1_any l j k _ wr (hv.below hbr) hk HS.out.1 (by omega) HS.out.2
      have HK := Lib.hid (kindsE_step hk HR.out)
      have HT := Lib.hid (take_step hk)
      have HKK := Lib.hid hk
      clear hk HR c1 c2 hso hsf
      go_wp2_with fail
      refine hone.mono ?_
      clear hone
      rintro e w3 ⟨rfl, hb3⟩
      have hB3 := hbr.trans (hb3.mono hbr.size)
      have x0 := cell_below hb3 c0
      clear c0
      by_cases he : oneE (l.take j) k = 0
      · have HN : Hid (kindsE [] l = kindsE (l.take (j + 1)) (l.drop (j + 1))) := by unfold Hid; rw [HK.out, if_pos he]
        have HS2 : Hid (Wf (l.take (j + 1)) ∧ ∀ x ∈ l.take (j + 1), x.fields.length ≤ 8) := by
          refine ⟨wf_snoc HS.out.1 HKK.out (oneE_zero he).new (oneE_zero he).ofs, ?_⟩
          intro x hx
          rw [HT.out] at hx
          rcases List.mem_append.1 hx with h | h
          · exact HS.out.2 x h
          · simp at h; subst h; exact (oneE_ofl he).2
        rw [he]
        clear he HK
        go_wp2_with fail
        go_roundw
        case rel => exact ⟨j + 1, by omega, by go_num, hB3, HN, HS2⟩
        case measure => simp [intOf]; omega
      · have HE : Hid (checkE l = (k.name, oneE (l.take j) k)) := by unfold Hid; rw [HE0.out, HK.out, if_neg he]
        have hne := he
        clear HK
        generalize oneE (l.take j) k = z at *
        go_wp2_with fail
        go_ret2
        exact ⟨by rw [HE.out]; rfl, hB3⟩
    · obtain rfl : j = l.length := by omega
      have HE : Hid (checkE l = (.empty, 0)) := by unfold Hid; rw [HE0.out, HR.out, List.drop_length]; rfl
      clear hv
      go_wp2_with fail
      go_ret2
      exact ⟨by rw [HE.out]; rfl, hbr⟩
end Go.Proofs.YtdfeloeainabjaaDoor
