/- Contract: kinref2.In. No condition. -/
import Derived.Test.YtldonhgcifhpgaaKinD
import Derived.Test.YtldonhgcifhpgaaQm
namespace Go.Proofs.Ytldonhgcifhpgaa
open Go Go.RowKit

set_option maxHeartbeats 400000 in
theorem in2_any (l : List Int) (x : Int) (v : Value) (w : World) (hv : Sl intL w v l) :
    Calls Try.prog 23 #[v, .int .i64 x] w fun e w' => e = .returned (.bool (l.any fun y => y == x)) ∧ w = w' := by
  obtain ⟨A, c, rfl, hlc, hcm⟩ := hv.form
  unfold maxLen at hcm
  go_enter Try.func23, Try.ntmps23
  go_wp2_with fail
  go_loop [5] (fun i => ∃ k : Nat, k ≤ l.length ∧ i = .int .i64 k ∧ Hid (∀ j y, j < k → l[j]? = some y → (y == x) = false)) (fun i => l.length - (intOf i).toNat)
  case atStart => exact ⟨0, Nat.zero_le _, rfl, fun j x hj => absurd hj (Nat.not_lt_zero _)⟩
  case round =>
    obtain ⟨k, hk, rfl, HA⟩ := hrel
    by_cases hlt : k < l.length
    · obtain ⟨d, hd⟩ : ∃ d, l[k]? = some d := ⟨_, List.getElem?_eq_getElem hlt⟩
      obtain ⟨b, o, rfl, _, hcell⟩ := int_at hv hd
      have HD : Hid (l[k]? = some d) := hd
      clear hd hv
      cases hq : (d == x) with
      | true =>
        have HE : Hid (l.any (fun y => y == x) = true) := List.any_eq_true.2 ⟨d, List.mem_of_getElem? HD.out, hq⟩
        go_wp2_with fail
        go_ret
        exact ⟨by rw [HE.out]; rfl, rfl⟩
      | false =>
        have HS : Hid (∀ j y, j < k + 1 → l[j]? = some y → (y == x) = false) := miss_step HA.out HD.out hq
        go_wp2_with fail
        go_round
        case rel => exact ⟨k + 1, by omega, by go_num, HS⟩
        case measure => simp [intOf]; omega
    · have hkl : k = l.length := by omega
      subst hkl
      have HE : Hid (l.any (fun y => y == x) = false) := by
        rw [← idxI_any, idxI_miss HA.out]; rfl
      clear hv
      go_wp2_with fail
      go_ret
      exact ⟨by rw [HE.out]; rfl, rfl⟩
end Go.Proofs.Ytldonhgcifhpgaa
