/- Contracts: kind.Check, kind.ready, kind.Kin, kind.IsKin, kind.Is, kind.Fields, kind.Under. -/
import Derived.Test.YtdfeloeainabjaaDoorKinI
namespace Go.Proofs.YtdfeloeainabjaaDoor
open Go Go.RowKit

theorem kindsE_step {l : List Knd} {j : Nat} {k : Knd} (hk : l[j]? = some k) {E : ByteArray × Int} (h : E = kindsE (l.take j) (l.drop j)) :
    E = if oneE (l.take j) k = 0 then kindsE (l.take (j + 1)) (l.drop (j + 1)) else (k.name, oneE (l.take j) k) := by
  rw [h, drop_cons hk, kindsE, take_step hk]
def CheckR (l : List Knd) (w : World) (e : Ending) (w' : World) : Prop := e = .returned (.tuple #[.string (checkE l).1, errV (checkE l).2]) ∧ Below w.heap.size w w'
theorem oneE_ofl {l : List Knd} {k : Knd} (h : oneE l k = 0) : k.ofs.length ≤ 4 ∧ k.fields.length ≤ 8 := ⟨(oneE_zero h).ofl, (oneE_zero h).fll⟩

set_option maxRecDepth 100000 in
set_option maxHeartbeats 4000000 in
theorem kcheck_any (l : List Knd) (v : Value) (w : World) (hv : Sl kndL w v l) : Calls Tryd.prog 22 #[v] w (CheckR l w) := by
  obtain ⟨A, c, rfl, hlc, hcA⟩ := hv.form
  unfold maxLen at hcA
  have hlm : (l.length : Int) ≤ 9223372036854775807 := by omega
  by_cases h12 : 12 < l.length
  · have HE : Hid (checkE l = (.empty, 4)) := by unfold Hid checkE; rw [if_pos h12]
    have h12' : (12 : Int) < (l.length : Int) := by omega
    clear hv
    go_enter Tryd.func22, Tryd.ntmps22
    go_wp2_with fail
    go_ret2
    exact ⟨by rw [HE.out, errV4]; rfl, Below.refl _ _⟩
  have h12' : (l.length : Int) ≤ 12 := by omega
  have HE0 : Hid (checkE l = kindsE [] l) := by unfold Hid checkE; rw [if_neg h12]
  go_enter Tryd.func22, Tryd.ntmps22
  go_wp2_with fail
  go_loopw [13] (fun i wr => ∃ j : Nat, j ≤ l.length ∧ i = .int .i64 j ∧ Below w.heap.size w wr ∧ Hid (kindsE [] l = kindsE (l.take j) (l.drop j)) ∧ Hid (∀ x ∈ l.take j, x.ofs.length ≤ 4 ∧ x.fields.length ≤ 8)) (fun i _ => l.length - (intOf i).toNat)
  case atStart => exact ⟨0, Nat.zero_le _, rfl, Below.refl _ _, rfl, fun x hx => by simp at hx⟩
  case round =>
    obtain ⟨j, hj, rfl, hbr, HR, HS⟩ := hrel
    by_cases hlt : j < l.length
    · obtain ⟨k, hk⟩ : ∃ k, l[j]? = some k := ⟨_, List.getElem?_eq_getElem hlt⟩
      obtain ⟨b, o, rfl, u, x, hnm, hso, hsf, c0, c1, c2⟩ := knd_at (hv.below hbr) hk
      obtain ⟨A1, q1, rfl, _, _⟩ := hso.form
      obtain ⟨A2, q2, rfl, _, _⟩ := hsf.form
      obtain ⟨z0, z1, z2⟩ := cell_box3 wr (.string k.name) (.slice A1 k.ofs.length q1) (.slice A2 k.fields.length q2) 58
      have hbb : Below wr.heap.size wr (wr.alloc (.cells #[.string k.name, .slice A1 k.ofs.length q1, .slice A2 k.fields.length q2] 58)) := (Below.refl _ _).alloc (Nat.le_refl _) _
      have hlt' : (j : Int) < (l.length : Int) := by omega
      have hjc : (j : Int) ≤ (c : Int) := by omega
      have hlk : (l.take j).length ≤ 12 := by simp; omega
      have HV : Hid (Sl kndL (wr.alloc (.cells #[.string k.name, .slice A1 k.ofs.length q1, .slice A2 k.fields.length q2] 58)) (.slice (some ⟨b, o, none⟩) j c) (l.take j)) := (Sl.take ((hv.below hbr).below hbb) hj)
      have HSO := Lib.hid (hso.below hbb)
      have HSF := Lib.hid (hsf.below hbb)
      have HK := Lib.hid (kindsE_step hk HR.out)
      have HT := Lib.hid (take_step hk)
      clear hk HR hso hsf
      go_wp2_with fail
      refine wp_mid_k 4 _ rfl rfl (by kernel_rfl) (by kernel_rfl) ?_
      simp only [List.take_succ_cons, List.take_zero, List.drop_succ_cons, List.drop_zero]
      repeat (go_big_quiet_step (fail))
      refine wpQuiet_nil ?_
      intro _ hw'
      obtain ⟨nq, hw''⟩ := hw'
      subst hw''
      intro K hK
      have hone := one_any (l.take j) k _ _ _ _ (HV.out.below (below_drewN (Below.refl _ _) nq)) (HSO.out.below (below_drewN (Below.refl _ _) nq)) (HSF.out.below (below_drewN (Below.refl _ _) nq)) hnm hlk (fun x hx => (HS.out x hx).1) (fun x hx => (HS.out x hx).2)
      have hbN : Below w.heap.size w ((wr.alloc (.cells #[.string k.name, .slice A1 k.ofs.length q1, .slice A2 k.fields.length q2] 58)).drewN nq) := below_drewN (hbr.alloc hbr.size _) nq
      have y0 : ((wr.alloc (.cells #[.string k.name, .slice A1 k.ofs.length q1, .slice A2 k.fields.length q2] 58)).drewN nq).cell? ⟨wr.heap.size, 0, none⟩ = some (.string k.name) := z0
      go_wp2_with fail
      refine hone.mono ?_
      clear hone
      rintro e w3 ⟨rfl, hb3⟩
      have hB3 := hbN.trans (hb3.mono hbN.size)
      have x0 := cell_below hb3 y0
      clear y0 z0 z1 z2 hb3 hbN
      by_cases he : oneE (l.take j) k = 0
      · have HN : Hid (kindsE [] l = kindsE (l.take (j + 1)) (l.drop (j + 1))) := by unfold Hid; rw [HK.out, if_pos he]
        have HS2 : Hid (∀ x ∈ l.take (j + 1), x.ofs.length ≤ 4 ∧ x.fields.length ≤ 8) := by
          intro x hx
          rw [HT.out] at hx
          rcases List.mem_append.1 hx with h | h
          · exact HS.out x h
          · simp at h; subst h; exact oneE_ofl he
        rw [errV_zero he]
        clear he HK
        refine hK _ _ ?_
        repeat (go_big_quiet_step (fail))
        refine wpQuiet_nil ?_
        intro _ hw'
        obtain ⟨nq2, hw''⟩ := hw'
        subst hw''
        go_wp2_with fail
        go_roundw
        case rel => exact ⟨j + 1, by omega, by go_num, below_drewN hB3 _, HN, HS2⟩
        case measure => simp [intOf]; omega
      · have HE : Hid (checkE l = (k.name, oneE (l.take j) k)) := by unfold Hid; rw [HE0.out, HK.out, if_neg he]
        have HV : Hid (errV (oneE (l.take j) k) = .iface 80 (.int .i64 (oneE (l.take j) k))) := errV_some he
        rw [errV_some he]
        clear he HK
        refine hK _ _ ?_
        repeat (go_big_quiet_step (fail))
        refine wpQuiet_nil ?_
        intro _ hw'
        obtain ⟨nq2, hw''⟩ := hw'
        subst hw''
        go_wp2_with fail
        go_ret2
        exact ⟨by rw [HE.out, HV.out]; rfl, below_drewN hB3 _⟩
    · obtain rfl : j = l.length := by omega
      have HE : Hid (checkE l = (.empty, 0)) := by unfold Hid; rw [HE0.out, HR.out, List.drop_length]; rfl
      clear hv
      go_wp2_with fail
      go_ret2
      exact ⟨by rw [HE.out, errV0]; rfl, hbr⟩
end Go.Proofs.YtdfeloeainabjaaDoor
