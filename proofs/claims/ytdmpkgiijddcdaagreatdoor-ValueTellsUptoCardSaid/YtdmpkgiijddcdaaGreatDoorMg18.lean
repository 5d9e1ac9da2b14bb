/- Parts: OrR. -/
import Derived.Test.YtdmpkgiijddcdaaGreatDoorMg12
import Derived.Test.YtdmpkgiijddcdaaGreatDoorMg14
import Derived.Test.YtdmpkgiijddcdaaGreatDoorMg09
import Derived.Test.YtdmpkgiijddcdaaGreatDoorMg08
/- Contract of the reference: kinref1.Order: how two values stand. No condition. -/
namespace Go.Proofs.YtdmpkgiijddcdaaGreatDoor
open Go Go.RowKit

set_option maxRecDepth 100000 in
set_option maxHeartbeats 2000000 in
theorem rorder_any (a b : Val) (w : World) :
    Calls Tryz.prog 18 #[.agg #[.int .i64 a.ty, .int .i64 a.n, .string a.s], .agg #[.int .i64 b.ty, .int .i64 b.n, .string b.s]] w fun e w' => e = .returned (.int .i64 (ordV a b)) ∧ Below w.heap.size w w' := by
  have HF := Lib.hid (ordV_eq a b)
  obtain ⟨x0, x1, x2⟩ := cell_box3 w (.int .i64 a.ty) (.int .i64 a.n) (.string a.s) 43
  obtain ⟨y0, y1, y2⟩ := cell_box3 (w.alloc (.cells #[.int .i64 a.ty, .int .i64 a.n, .string a.s] 43)) (.int .i64 b.ty) (.int .i64 b.n) (.string b.s) 43
  have ha : Below w.heap.size w (w.alloc (.cells #[.int .i64 a.ty, .int .i64 a.n, .string a.s] 43)) := (Below.refl _ _).alloc (Nat.le_refl _) _
  have hb0 : Below w.heap.size w ((w.alloc (.cells #[.int .i64 a.ty, .int .i64 a.n, .string a.s] 43)).alloc (.cells #[.int .i64 b.ty, .int .i64 b.n, .string b.s] 43)) := ha.alloc ha.size _
  have hb1 : Below (w.alloc (.cells #[.int .i64 a.ty, .int .i64 a.n, .string a.s] 43)).heap.size (w.alloc (.cells #[.int .i64 a.ty, .int .i64 a.n, .string a.s] 43)) ((w.alloc (.cells #[.int .i64 a.ty, .int .i64 a.n, .string a.s] 43)).alloc (.cells #[.int .i64 b.ty, .int .i64 b.n, .string b.s] 43)) := (Below.refl _ _).alloc (Nat.le_refl _) _
  have x0 := cell_below hb1 x0
  have x1 := cell_below hb1 x1
  have x2 := cell_below hb1 x2
  clear ha hb1
  obtain ⟨ta, an, sa⟩ := a
  obtain ⟨tb, bn, sb⟩ := b
  have HF : Hid (ordV ⟨ta, an, sa⟩ ⟨tb, bn, sb⟩ = if cmpI ta tb = 0 then (if cmpI an bn = 0 then (if cmpS sa sb = 0 then 0 else cmpS sa sb) else cmpI an bn) else cmpI ta tb) := HF
  by_cases h1 : ta = tb
  · subst h1
    have HF : Hid (ordV ⟨ta, an, sa⟩ ⟨ta, bn, sb⟩ = if cmpI an bn = 0 then (if cmpS sa sb = 0 then 0 else cmpS sa sb) else cmpI an bn) := by unfold Hid; rw [HF.out, if_pos (cmpI_zero.2 rfl)]
    have e1 : (ta != ta) = false := by simp
    by_cases h2 : an = bn
    · subst h2
      have HF : Hid (ordV ⟨ta, an, sa⟩ ⟨ta, an, sb⟩ = if cmpS sa sb = 0 then 0 else cmpS sa sb) := by unfold Hid; rw [HF.out, if_pos (cmpI_zero.2 rfl)]
      have hL : Op.bytesLess sa.toList sb.toList = decide (cmpS sa sb < 0) := ltS_cmp sa sb
      have hq : (sa.toList == sb.toList) = decide (sa = sb) := bytes_beq _ _
      have hsm := compareBytes_small sa.data.toList sb.data.toList
      have hsm : cmpS sa sb = -1 ∨ cmpS sa sb = 0 ∨ cmpS sa sb = 1 := hsm
      rcases hsm with h3 | h3 | h3
      · have HE : Hid (ordV ⟨ta, an, sa⟩ ⟨ta, an, sb⟩ = -1) := by unfold Hid; rw [HF.out, h3]; rfl
        rw [decide_eq_true (by omega)] at hL
        clear h3 hq
        clear HF
        go_enter Tryz.func18, Tryz.ntmps18
        go_wp2_with fail
        go_ret
        exact ⟨by rw [HE.out]; rfl, hb0⟩
      · have HE : Hid (ordV ⟨ta, an, sa⟩ ⟨ta, an, sb⟩ = 0) := by unfold Hid; rw [HF.out, if_pos h3]
        rw [decide_eq_false (by omega)] at hL
        have h4 := cmpS_zero.1 h3
        subst h4
        clear h3 hq
        clear HF
        go_enter Tryz.func18, Tryz.ntmps18
        go_wp2_with fail
        go_ret
        exact ⟨by rw [HE.out]; rfl, hb0⟩
      · have HE : Hid (ordV ⟨ta, an, sa⟩ ⟨ta, an, sb⟩ = 1) := by unfold Hid; rw [HF.out, h3]; rfl
        rw [decide_eq_false (by omega)] at hL
        have h4 : ¬ sa = sb := fun e => by have := cmpS_zero.2 e; omega
        rw [decide_eq_false h4] at hq
        have hq2 : ¬ sa.toList = sb.toList := by rw [bytes_eq]; exact h4
        clear h3 h4
        clear HF
        go_enter Tryz.func18, Tryz.ntmps18
        go_wp2_with fail
        go_ret
        exact ⟨by rw [HE.out]; rfl, hb0⟩
    · have hz : ¬ cmpI an bn = 0 := fun e => h2 (cmpI_zero.1 e)
      have hv : cmpI an bn = if an < bn then -1 else 1 := by unfold cmpI; split <;> (try split) <;> omega
      have HF : Hid (ordV ⟨ta, an, sa⟩ ⟨ta, bn, sb⟩ = if an < bn then -1 else 1) := by unfold Hid; rw [HF.out, if_neg hz, hv]
      clear hz hv
      by_cases h3 : an < bn
      · have HE : Hid (ordV ⟨ta, an, sa⟩ ⟨ta, bn, sb⟩ = -1) := by unfold Hid; rw [HF.out, if_pos h3]
        have e3 : (an == bn) = false := by simpa using h2
        clear h2
        clear HF
        go_enter Tryz.func18, Tryz.ntmps18
        go_wp2_with fail
        go_ret
        exact ⟨by rw [HE.out]; rfl, hb0⟩
      · have HE : Hid (ordV ⟨ta, an, sa⟩ ⟨ta, bn, sb⟩ = 1) := by unfold Hid; rw [HF.out, if_neg h3]
        have h4 : bn < an := by omega
        have h5 : ¬ an < bn := h3
        have e3 : (an == bn) = false := by simpa using h2
        clear h3
        clear HF
        go_enter Tryz.func18, Tryz.ntmps18
        go_wp2_with fail
        go_ret
        exact ⟨by rw [HE.out]; rfl, hb0⟩
  · have hz : ¬ cmpI ta tb = 0 := fun e => h1 (cmpI_zero.1 e)
    have hv : cmpI ta tb = if ta < tb then -1 else 1 := by unfold cmpI; split <;> (try split) <;> omega
    have HF : Hid (ordV ⟨ta, an, sa⟩ ⟨tb, bn, sb⟩ = if ta < tb then -1 else 1) := by unfold Hid; rw [HF.out, if_neg hz, hv]
    have e1 : (ta != tb) = true := by simpa using h1
    clear hz hv
    by_cases h3 : ta < tb
    · have HE : Hid (ordV ⟨ta, an, sa⟩ ⟨tb, bn, sb⟩ = -1) := by unfold Hid; rw [HF.out, if_pos h3]
      clear h1
      clear HF
      go_enter Tryz.func18, Tryz.ntmps18
      go_wp2_with fail
      go_ret
      exact ⟨by rw [HE.out]; rfl, hb0⟩
    · have HE : Hid (ordV ⟨ta, an, sa⟩ ⟨tb, bn, sb⟩ = 1) := by unfold Hid; rw [HF.out, if_neg h3]
      clear h1
      clear HF
      go_enter Tryz.func18, Tryz.ntmps18
      go_wp2_with fail
      go_ret
      exact ⟨by rw [HE.out]; rfl, hb0⟩
end Go.Proofs.YtdmpkgiijddcdaaGreatDoor
