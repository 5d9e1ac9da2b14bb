/- Contracts: slices.Index, slices.Contains over ints, slices.IndexFunc, slices.ContainsFunc over lists of ints, kinref2.In, stat.Far. -/
import Derived.Test.YtdfeloeainabjaaFarW
import Derived.Test.YtdfeloeainabjaaQm
namespace Go.Proofs.Ytdfeloeainabjaa
open Go.RowKit

set_option maxHeartbeats 400000 in
theorem indexInt_any (l : List Int) (x : Int) (v : Value) (w : World) (hv : Sl intL w v l) :
    Calls Try.prog 64 #[v, .int .i64 x] w fun e w' => e = .returned (.int .i64 (idxI (fun y => x == y) l)) ∧ w = w' := by
  obtain ⟨A, c, rfl, hlc, hcm⟩ := hv.form
  unfold maxLen at hcm
  go_enter Try.func64, Try.ntmps64
  go_wp2_with fail
  go_loop [8] (fun i => ∃ k : Nat, k ≤ l.length ∧ i = .int .i64 k ∧ Hid (∀ j y, j < k → l[j]? = some y → (x == y) = false)) (fun i => l.length - (intOf i).toNat)
  case atStart => exact ⟨0, Nat.zero_le _, rfl, fun j x hj => absurd hj (Nat.not_lt_zero _)⟩
  case round =>
    obtain ⟨k, hk, rfl, HA⟩ := hrel
    by_cases hlt : k < l.length
    · obtain ⟨d, hd⟩ : ∃ d, l[k]? = some d := ⟨_, List.getElem?_eq_getElem hlt⟩
      obtain ⟨b, o, rfl, _, hcell⟩ := int_at hv hd
      have HD : Hid (l[k]? = some d) := hd
      clear hd hv
      cases hq : (x == d) with
      | true =>
        have HE : Hid (idxI (fun y => x == y) l = k) := idxI_hit HA.out HD.out hq
        go_wp2_with fail
        go_ret
        exact ⟨by rw [HE.out]; rfl, rfl⟩
      | false =>
        have HS : Hid (∀ j y, j < k + 1 → l[j]? = some y → (x == y) = false) := miss_step HA.out HD.out hq
        go_wp2_with fail
        go_round
        case rel => exact ⟨k + 1, by omega, by go_num, HS⟩
        case measure => simp [intOf]; omega
    · have hkl : k = l.length := by omega
      subst hkl
      have HE : Hid (idxI (fun y => x == y) l = -1) := idxI_miss HA.out
      clear hv
      go_wp2_with fail
      go_ret
      exact ⟨by rw [HE.out]; rfl, rfl⟩
theorem containsInt_any (l : List Int) (x : Int) (v : Value) (w : World) (hv : Sl intL w v l) :
    Calls Try.prog 33 #[v, .int .i64 x] w fun e w' => e = .returned (.bool (l.any fun y => x == y)) ∧ w = w' := by
  have h1 := indexInt_any l x v w hv
  have h2 := idxI_any (fun y => x == y) l
  have H2 := Lib.hid h2
  clear h2 hv
  go_enter Try.func33, Try.ntmps33
  go_wp2_with (go_at_call 64; refine h1.mono ?_; rintro e w' ⟨rfl, rfl⟩)
  go_ret
  exact ⟨ret_bool H2.out, rfl⟩

def intsV (w : World) (d : List Int) (u : Value) : Prop := Sl intL w u d
set_option maxHeartbeats 400000 in
theorem idx_ints (g : Nat) (caps : Array Value) (eg : ∀ args w, (callFunc g args).run Try.prog w = .ok (.enter g args) w) (p : List Int → Bool) (l : List (List Int)) (v : Value) (w : World) (hv : Sl (slL intL) w v l)
    (hp : PredB Try.prog g caps intsV p w) :
    Calls Try.prog 63 #[v, .func (.func g) #[] caps] w fun e w' => e = .returned (.int .i64 (idxI p l)) ∧ Below w.heap.size w w' := by
  obtain ⟨A, c, rfl, hlc, hcm⟩ := hv.form
  unfold maxLen at hcm
  go_enter Try.func63, Try.ntmps63
  go_wp2_with fail
  go_loopw [8] (fun i wr => ∃ k : Nat, k ≤ l.length ∧ i = .int .i64 k ∧ Below w.heap.size w wr ∧ Hid (∀ j x, j < k → l[j]? = some x → p x = false)) (fun i _ => l.length - (intOf i).toNat)
  case atStart => exact ⟨0, Nat.zero_le _, rfl, Below.refl _ _, fun j x hj => absurd hj (Nat.not_lt_zero _)⟩
  case round =>
    obtain ⟨k, hk, rfl, hb, HA⟩ := hrel
    by_cases hlt : k < l.length
    · obtain ⟨d, hd⟩ : ∃ d, l[k]? = some d := ⟨_, List.getElem?_eq_getElem hlt⟩
      obtain ⟨b, o, rfl, u, hu, hcell⟩ := sl_at (hv.below hb) hd
      obtain ⟨Au, cu, rfl, _, _⟩ := hu.form
      have hcall := hp d _ wr hb hu
      clear hu
      have HD : Hid (l[k]? = some d) := hd
      clear hd hp hv
      cases hq : p d with
      | true =>
        rw [hq] at hcall
        have HQ : Hid (p d = true) := hq
        clear hq
        go_wp2_with (go_at_fn g; refine hcall.mono ?_; rintro e w' ⟨rfl, hb2⟩)
        go_ret
        exact ⟨ret_int (idxI_hit HA.out HD.out HQ.out).symm, hb.trans (hb2.mono hb.size)⟩
      | false =>
        rw [hq] at hcall
        have HQ : Hid (p d = false) := hq
        clear hq
        go_wp2_with (go_at_fn g; refine hcall.mono ?_; rintro e w' ⟨rfl, hb2⟩)
        go_roundw
        case rel => exact ⟨k + 1, by omega, by go_num, hb.trans (hb2.mono hb.size), miss_step HA.out HD.out HQ.out⟩
        case measure => simp [intOf]; omega
    · have hkl : k = l.length := by omega
      subst hkl
      clear hp hv
      go_wp2_with fail
      go_ret
      exact ⟨ret_int (idxI_miss HA.out).symm, hb⟩
theorem has_ints (g : Nat) (caps : Array Value) (eg : ∀ args w, (callFunc g args).run Try.prog w = .ok (.enter g args) w) (p : List Int → Bool) (l : List (List Int)) (v : Value) (w : World) (hv : Sl (slL intL) w v l)
    (hp : PredB Try.prog g caps intsV p w) :
    Calls Try.prog 31 #[v, .func (.func g) #[] caps] w fun e w' => e = .returned (.bool (l.any p)) ∧ Below w.heap.size w w' := by
  have h1 := idx_ints g caps eg p l v w hv hp
  have h2 := idxI_any p l
  have H2 := Lib.hid h2
  clear h2 hv hp eg
  go_enter Try.func31, Try.ntmps31
  go_wp2_with (go_at_call 63; refine h1.mono ?_; rintro e w' ⟨rfl, hb⟩)
  go_ret
  exact ⟨ret_bool H2.out, hb⟩

set_option maxHeartbeats 400000 in
theorem in_any (l : List Int) (x : Int) (v : Value) (w : World) (hv : Sl intL w v l) :
    Calls Try.prog 14 #[v, .int .i64 x] w fun e w' => e = .returned (.bool (l.any fun y => y == x)) ∧ w = w' := by
  obtain ⟨A, c, rfl, hlc, hcm⟩ := hv.form
  unfold maxLen at hcm
  go_enter Try.func14, Try.ntmps14
  go_wp2_with fail
  go_loop [5] (fun i => ∃ k : Nat, k ≤ l.length ∧ i = .int .i64 k ∧ Hid (∀ j y, j < k → l[j]? = some y → (y == x) = false)) (fun i => l.length - (intOf i).toNat)
  case atStart => exact ⟨0, Nat.zero_le _, rfl, fun j x hj => absurd hj (Nat.not_lt_zero _)⟩
  case round =>
    obtain ⟨k, hk, rfl, HA⟩ := hrel
    by_cases hlt : k < l.length
    · obtain ⟨d, hd⟩ : ∃ d, l[k]? = some d := ⟨_, List.getElem?_eq_getElem hlt⟩
      obtain ⟨b, o, rfl, _, hcell⟩ := int_at hv hd
      have HD : Hid (l[k]? = some d) := hd
      clear hd hv
      cases hq : (d == x) with
      | true =>
        have HE : Hid (l.any (fun y => y == x) = true) := List.any_eq_true.2 ⟨d, List.mem_of_getElem? HD.out, hq⟩
        go_wp2_with fail
        go_ret
        exact ⟨by rw [HE.out]; rfl, rfl⟩
      | false =>
        have HS : Hid (∀ j y, j < k + 1 → l[j]? = some y → (y == x) = false) := miss_step HA.out HD.out hq
        go_wp2_with fail
        go_round
        case rel => exact ⟨k + 1, by omega, by go_num, HS⟩
        case measure => simp [intOf]; omega
    · have hkl : k = l.length := by omega
      subst hkl
      have HE : Hid (l.any (fun y => y == x) = false) := by
        rw [← idxI_any, idxI_miss HA.out]; rfl
      clear hv
      go_wp2_with fail
      go_ret
      exact ⟨by rw [HE.out]; rfl, rfl⟩
end Go.Proofs.Ytdfeloeainabjaa
