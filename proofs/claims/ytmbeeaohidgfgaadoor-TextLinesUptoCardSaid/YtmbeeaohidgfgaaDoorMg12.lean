/- Parts: RecB. -/
import Derived.Test.YtmbeeaohidgfgaaDoorMg11
/- Contract: what record.Check of the program answers. -/
namespace Go.Proofs.YtmbeeaohidgfgaaDoor
open Go.RowKit

set_option maxHeartbeats 1000000 in
theorem recCheck_any (r : List Prp) (v : Value) (w : World) (hv : Sl prpL w v r) :
    Calls Tryd.prog 28 #[v] w fun e w' => e = .returned (errV (recE r)) ∧ Below w.heap.size w w' := by
  obtain ⟨A, c, rfl, hlc, hcm⟩ := hv.form
  unfold maxLen at hcm
  have HF : Hid (recE r = if 8 < r.length then 4 else if firstE prpE r = 0 then (if chain (fun a b => ltS a.name b.name) r then 0 else 7) else firstE prpE r) := rfl
  by_cases h8 : 8 < r.length
  · have HE : Hid (errV (recE r) = .iface 59 (.int .i64 4)) := by rw [HF.out, if_pos h8]; rfl
    have h8' : (8 : Int) < (r.length : Int) := by omega
    go_enter Tryd.func28, Tryd.ntmps28
    go_wp2_with fail
    go_ret
    exact ⟨by rw [HE.out]; rfl, Below.refl _ _⟩
  have h8' : decide ((8 : Int) < (r.length : Int)) = false := by simp; omega
  have h8'' : (r.length : Int) ≤ 8 := by omega
  go_enter Tryd.func28, Tryd.ntmps28
  go_wp2_with fail
  go_loopw [13] (fun i wr => ∃ k : Nat, k ≤ r.length ∧ i = .int .i64 k ∧ Below w.heap.size w wr ∧ Hid (∀ j x, j < k → r[j]? = some x → prpE x = 0)) (fun i _ => r.length - (intOf i).toNat)
  case atStart => exact ⟨0, Nat.zero_le _, rfl, Below.refl _ _, fun j x hj => absurd hj (Nat.not_lt_zero _)⟩
  case round =>
    obtain ⟨k, hk, rfl, hb, HA⟩ := hrel
    by_cases hlt : k < r.length
    · obtain ⟨d, hd⟩ : ∃ d, r[k]? = some d := ⟨_, List.getElem?_eq_getElem hlt⟩
      obtain ⟨b, o, rfl, hok, x0, x1, x2, x3⟩ := prp_at (hv.below hb) hd
      have HD : Hid (r[k]? = some d) := hd
      clear hd hv
      by_cases hz : prpE d = 0
      · have hE : errV (prpE d) = .nilIface := errV_zero hz
        have HZ : Hid (prpE d = 0) := hz
        clear hz
        go_wp2_with fail
        refine (prop_any d hok _).mono ?_
        rintro e w1 ⟨rfl, hb1⟩
        rw [hE]
        have hb2 : Below w.heap.size w w1 := (hb.alloc hb.size _).trans (hb1.mono (by have := hb.size; simp; omega))
        go_wp2_with fail
        go_roundw
        case rel => exact ⟨k + 1, by omega, by go_num, hb2, zero_step HA.out HD.out HZ.out⟩
        case measure => simp [intOf]; omega
      · have hE : errV (prpE d) = .iface 59 (.int .i64 (prpE d)) := errV_some hz
        have HE : Hid (errV (recE r) = .iface 59 (.int .i64 (prpE d))) := by
          have := firstE_hit HA.out HD.out hz
          rw [HF.out, if_neg h8, this, if_neg hz]; exact hE
        clear hz
        go_wp2_with fail
        refine (prop_any d hok _).mono ?_
        rintro e w1 ⟨rfl, hb1⟩
        rw [hE]
        have hb2 : Below w.heap.size w w1 := (hb.alloc hb.size _).trans (hb1.mono (by have := hb.size; simp; omega))
        go_wp2_with fail
        go_ret
        exact ⟨by rw [HE.out]; rfl, hb2⟩
    · have hkl : k = r.length := by omega
      subst hkl
      have HG : Hid (recE r = if chain (fun a b => ltS a.name b.name) r then 0 else 7) := by
        rw [HF.out, if_neg h8, if_pos (firstE_none HA.out)]; rfl
      clear HF HA
      obtain ⟨wo, rfl⟩ : ∃ wo : World, wo = wr := ⟨_, rfl⟩
      go_wp2_with fail
      go_loopw [6] (fun i wr => ∃ k : Nat, (k = 0 ∨ k < r.length) ∧ i = .int .i64 ((k : Int) + 1) ∧ Below w.heap.size w wr ∧ Hid (∀ i a b, i < k → r[i]? = some a → r[i + 1]? = some b → ltS a.name b.name = true)) (fun i _ => r.length + 1 - (intOf i).toNat)
      case atStart => exact ⟨0, Or.inl rfl, rfl, hb, fun j _ _ hj => absurd hj (Nat.not_lt_zero _)⟩
      case round =>
        obtain ⟨k, hk, rfl, hb, HA⟩ := hrel
        by_cases hlt : k + 1 < r.length
        · obtain ⟨d, hd⟩ : ∃ d, r[k]? = some d := ⟨_, List.getElem?_eq_getElem (by omega)⟩
          obtain ⟨d', hd'⟩ : ∃ d, r[k + 1]? = some d := ⟨_, List.getElem?_eq_getElem hlt⟩
          obtain ⟨b, o, rfl, hall⟩ := prp_all (hv.below hb) (by omega)
          obtain ⟨_, x0, _⟩ := hall _ _ hd
          obtain ⟨_, y0, _⟩ := hall _ _ hd'
          clear hall
          have hlt' : (k : Int) + 1 < (r.length : Int) := by omega
          have HD : Hid (r[k]? = some d) := hd
          have HD' : Hid (r[k + 1]? = some d') := hd'
          clear hd hd' hv
          cases hR : ltS d.name d'.name with
          | true =>
            have hR' : Op.bytesLess d.name.toList d'.name.toList = true := hR
            have HR : Hid (ltS d.name d'.name = true) := hR
            clear hR
            go_wp2_with fail
            go_quiet (fail)
            go_wp2_with fail
            go_roundw
            case rel => exact ⟨k + 1, by omega, by go_num, below_drewN hb _, chain_step HA.out HD.out HD'.out HR.out⟩
            case measure => simp [intOf]; omega
          | false =>
            have hR' : Op.bytesLess d.name.toList d'.name.toList = false := hR
            have HE : Hid (errV (recE r) = .iface 59 (.int .i64 7)) := by
              rw [HG.out, chain_not HD.out HD'.out hR]; rfl
            clear hR
            go_wp2_with fail
            go_quiet (fail)
            go_wp2_with fail
            go_ret
            exact ⟨by rw [HE.out]; rfl, below_drewN hb _⟩
        · have hlt' : (r.length : Int) ≤ (k : Int) + 1 := by omega
          have HE : Hid (errV (recE r) = .nilIface) := by
            rw [HG.out, chain_all (by omega) HA.out]; rfl
          clear hv
          go_wp2_with fail
          go_ret
          exact ⟨by rw [HE.out]; rfl, hb⟩
end Go.Proofs.YtmbeeaohidgfgaaDoor
