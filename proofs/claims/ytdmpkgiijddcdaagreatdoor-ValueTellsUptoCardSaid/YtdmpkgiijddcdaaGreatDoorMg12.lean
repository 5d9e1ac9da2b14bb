/- Parts: VtO, VpC. -/
import Derived.Test.YtdmpkgiijddcdaaGreatDoorMg06
import Derived.Test.YtdmpkgiijddcdaaGreatDoorMg09
import Derived.Test.YtdmpkgiijddcdaaGreatDoorMg08
import Derived.Test.YtdmpkgiijddcdaaGreatDoorMg05
import Derived.Deep.DeepCutAuto
/- Plain: the order of values. No condition. -/
namespace Go.Proofs.YtdmpkgiijddcdaaGreatDoor
open Go

def ordV (a b : Val) : Int := orI [cmpI a.ty b.ty, cmpI a.n b.n, cmpS a.s b.s]
theorem ordV_eq (a b : Val) : ordV a b = if cmpI a.ty b.ty = 0 then (if cmpI a.n b.n = 0 then (if cmpS a.s b.s = 0 then 0 else cmpS a.s b.s) else cmpI a.n b.n) else cmpI a.ty b.ty := rfl
open Go Go.RowKit

theorem val_at {w : World} {A : Option Addr} {k n c : Nat} {l : List Val} (h : Sl valL w (.slice A n c) l) {d : Val} (hk : l[k]? = some d) :
    ∃ b o, A = some ⟨b, o, none⟩ ∧ d.ok ∧ w.cell? ⟨b, o + k * 3, none⟩ = some (.int .i64 d.ty) ∧ w.cell? ⟨b, o + k * 3 + 1, none⟩ = some (.int .i64 d.n) ∧ w.cell? ⟨b, o + k * 3 + 2, none⟩ = some (.string d.s) := by
  obtain ⟨b, o, hA, hall⟩ := h.all (len_pos hk)
  obtain ⟨cs, ⟨rfl, ok⟩, hx⟩ := hall k d hk
  exact ⟨b, o, hA, ok, hx 0 _ rfl, hx 1 _ rfl, hx 2 _ rfl⟩
set_option maxHeartbeats 1000000 in
theorem vorder_any (a b : Val) (w : World) :
    Calls Tryz.prog 73 #[.agg #[.int .i64 a.ty, .int .i64 a.n, .string a.s], .agg #[.int .i64 b.ty, .int .i64 b.n, .string b.s]] w fun e w' => e = .returned (.int .i64 (ordV a b)) ∧ Below w.heap.size w w' := by
  have HF : Hid (ordV a b = orI [cmpI a.ty b.ty, cmpI a.n b.n, cmpS a.s b.s]) := rfl
  go_enter Tryz.func73, Tryz.ntmps73
  go_wp2_with fail
  refine wp_quiet_tail 15 (by kernel_rfl) (by kernel_rfl) ?_
  simp only [List.take_succ_cons, List.take_zero, List.drop_succ_cons, List.drop_zero]
  repeat (go_big_quiet_step (first | (go_at_call 124; exact Calls.quiet_of_same ((scmp_any _ _ _).mono fun _ _ h => ⟨h.1, h.2.symm⟩)) | (go_at_call 123; exact Calls.quiet_of_same ((cmp_any _ _ _).mono fun _ _ h => ⟨h.1, h.2.symm⟩))))
  refine wpQuiet_nil ?_
  intro _ hw'
  obtain ⟨nq, hw''⟩ := hw'
  subst hw''
  have hI : ∀ x ∈ [cmpI a.ty b.ty, cmpI a.n b.n, cmpS a.s b.s], I64 x := by
    intro x hx
    simp only [List.mem_cons, List.not_mem_nil, or_false] at hx
    rcases hx with rfl | rfl | rfl
    · exact cmpI_i64 _ _
    · exact cmpI_i64 _ _
    · exact cmpS_i64 _ _
  go_wp2_with fail
  refine (or_any [cmpI a.ty b.ty, cmpI a.n b.n, cmpS a.s b.s] _ _ ?_).mono ?_
  · exact sl_ints [cmpI a.ty b.ty, cmpI a.n b.n, cmpS a.s b.s] hI 3 (by simp) (by unfold maxLen; omega) (heap_at_new _ _ _ (by simp [World.drewN]))
  rintro e w' ⟨rfl, rfl⟩
  go_wp2_with fail
  go_ret
  refine ⟨by rw [HF.out]; rfl, Below.alloc (below_drewN (((Below.refl _ _).alloc (Nat.le_refl _) _).alloc (by simp) _) _) (by simp [World.drewN]; omega) _⟩
/-- The fault of two values that are compared; how they stand. -/
def cmpE2 (a b : Val) : Int := if valE a = 0 then (if valE b = 0 then (if a.ty = b.ty then 0 else 8) else valE b) else valE a
def cmpV2 (a b : Val) : Int := if cmpE2 a b = 0 then ordV a b else 0
set_option maxHeartbeats 1000000 in
theorem vcompare_any (a b : Val) (ha : a.ok) (hb : b.ok) (w : World) :
    Calls Tryz.prog 19 #[.agg #[.int .i64 a.ty, .int .i64 a.n, .string a.s], .agg #[.int .i64 b.ty, .int .i64 b.n, .string b.s]] w fun e w' => e = .returned (.tuple #[.int .i64 (cmpV2 a b), errV (cmpE2 a b)]) ∧ Below w.heap.size w w' := by
  have hb1 : Below w.heap.size w (w.alloc (.cells #[.int .i64 a.ty, .int .i64 a.n, .string a.s] 43)) := (Below.refl _ _).alloc (Nat.le_refl _) _
  have hk1 := heap_alloc_new w (.cells #[.int .i64 a.ty, .int .i64 a.n, .string a.s] 43)
  have hb2 : Below (w.alloc (.cells #[.int .i64 a.ty, .int .i64 a.n, .string a.s] 43)).heap.size (w.alloc (.cells #[.int .i64 a.ty, .int .i64 a.n, .string a.s] 43)) ((w.alloc (.cells #[.int .i64 a.ty, .int .i64 a.n, .string a.s] 43)).alloc (.cells #[.int .i64 b.ty, .int .i64 b.n, .string b.s] 43)) := (Below.refl _ _).alloc (Nat.le_refl _) _
  have hk2 := heap_alloc_new (w.alloc (.cells #[.int .i64 a.ty, .int .i64 a.n, .string a.s] 43)) (.cells #[.int .i64 b.ty, .int .i64 b.n, .string b.s] 43)
  have hk1 := (hb2.block _ (Array.getElem?_eq_some_iff.1 hk1).1).trans hk1
  have hs1 : (w.alloc (.cells #[.int .i64 a.ty, .int .i64 a.n, .string a.s] 43)).heap.size = w.heap.size + 1 := by simp
  have hB2 := hb1.trans (hb2.mono hb1.size)
  rw [hs1] at hk2
  have HA := Lib.hid ha
  have HB := Lib.hid hb
  have HX : Hid (cmpE2 a b = (if valE a = 0 then (if valE b = 0 then (if a.ty = b.ty then 0 else 8) else valE b) else valE a) ∧ cmpV2 a b = if cmpE2 a b = 0 then ordV a b else 0) := ⟨rfl, rfl⟩
  have hS2 : ((w.alloc (.cells #[.int .i64 a.ty, .int .i64 a.n, .string a.s] 43)).alloc (.cells #[.int .i64 b.ty, .int .i64 b.n, .string b.s] 43)).heap.size = w.heap.size + 2 := by simp
  have HS2 := Lib.hid hS2
  clear ha hb hs1 hS2
  obtain ⟨aty, an, a_s⟩ := a
  obtain ⟨bty, bn, b_s⟩ := b
  go_enter Tryz.func19, Tryz.ntmps19
  go_upto_region 1 with fail
  generalize (w.alloc (.cells #[.int .i64 aty, .int .i64 an, .string a_s] 43)).alloc (.cells #[.int .i64 bty, .int .i64 bn, .string b_s] 43) = W0 at *
  have x0 := block_cell hk1 0
  have x1 := block_cell hk1 1
  have x2 := block_cell hk1 2
  have y0 := block_cell hk2 0
  have y1 := block_cell hk2 1
  have y2 := block_cell hk2 2
  have hsl : Sl valL (W0.alloc (.cells #[.int .i64 aty, .int .i64 an, .string a_s, .int .i64 bty, .int .i64 bn, .string b_s] 43)) (.slice (some ⟨W0.heap.size, 0, none⟩) 2 2) [⟨aty, an, a_s⟩, ⟨bty, bn, b_s⟩] := by
    have hk := heap_alloc_new W0 (.cells #[.int .i64 aty, .int .i64 an, .string a_s, .int .i64 bty, .int .i64 bn, .string b_s] 43)
    refine ⟨_, 2, rfl, Nat.le_refl _, by unfold maxLen; omega, fun i d hi => ⟨W0.heap.size, 0, Val.enc d, rfl, ?_, fun j u hj => ?_⟩⟩
    · match i, hi with
      | 0, hi => obtain rfl := Option.some.inj hi; exact ⟨rfl, HA.out⟩
      | 1, hi => obtain rfl := Option.some.inj hi; exact ⟨rfl, HB.out⟩
    · rw [block_cell hk]
      match i, hi, j, hj with
      | 0, hi, 0, hj => obtain rfl := Option.some.inj hi; exact hj
      | 0, hi, 1, hj => obtain rfl := Option.some.inj hi; exact hj
      | 0, hi, 2, hj => obtain rfl := Option.some.inj hi; exact hj
      | 1, hi, 0, hj => obtain rfl := Option.some.inj hi; exact hj
      | 1, hi, 1, hj => obtain rfl := Option.some.inj hi; exact hj
      | 1, hi, 2, hj => obtain rfl := Option.some.inj hi; exact hj
  have ha1 : Below W0.heap.size W0 (W0.alloc (.cells #[.int .i64 aty, .int .i64 an, .string a_s, .int .i64 bty, .int .i64 bn, .string b_s] 43)) := (Below.refl _ _).alloc (Nat.le_refl _) _
  have HSL := Lib.hid hsl
  clear hb1 hb2 hsl
  go_wp2_with fail
  clear x0 x1 x2 y0 y1 y2
  have hk1 := (ha1.block _ (Array.getElem?_eq_some_iff.1 hk1).1).trans hk1
  have hk2 := (ha1.block _ (Array.getElem?_eq_some_iff.1 hk2).1).trans hk2
  have hB1 := hB2.trans (ha1.mono hB2.size)
  obtain ⟨q, hq⟩ : ∃ q, q = W0.heap.size := ⟨_, rfl⟩
  rw [← hq] at HSL ⊢
  have HQ := Lib.hid hq
  generalize W0.alloc (.cells #[.int .i64 aty, .int .i64 an, .string a_s, .int .i64 bty, .int .i64 bn, .string b_s] 43) = W1 at *
  clear hq ha1
  go_loopw [7, 8, 13] (fun _ _ i wr => ∃ k : Nat, k ≤ 2 ∧ i = .int .i64 k ∧ Below W1.heap.size W1 wr ∧ (1 ≤ k → valE ⟨aty, an, a_s⟩ = 0) ∧ (2 ≤ k → valE ⟨bty, bn, b_s⟩ = 0)) (fun _ _ i _ => 2 - (intOf i).toNat)
  case atStart => exact ⟨0, Nat.zero_le _, rfl, Below.refl _ _, fun h => absurd h (by omega), fun h => absurd h (by omega)⟩
  case round =>
    obtain ⟨k, hk, rfl, hbr, h1, h2⟩ := hrel
    have H12 := Lib.hid (And.intro h1 h2)
    clear h1 h2
    by_cases hlt : k < 2
    · have hlt' : (k : Int) < 2 := by omega
      obtain ⟨d, hd, hdk⟩ : ∃ d, ([⟨aty, an, a_s⟩, ⟨bty, bn, b_s⟩] : List Val)[k]? = some d ∧ ((k = 0 ∧ d = ⟨aty, an, a_s⟩) ∨ (k = 1 ∧ d = ⟨bty, bn, b_s⟩)) := by
        rcases Nat.lt_or_ge k 1 with h | h
        · obtain rfl : k = 0 := by omega
          exact ⟨_, rfl, .inl ⟨rfl, rfl⟩⟩
        · obtain rfl : k = 1 := by omega
          exact ⟨_, rfl, .inr ⟨rfl, rfl⟩⟩
      obtain ⟨gb, o, hA, hok, c0, c1, c2⟩ := val_at (HSL.out.below hbr) hd
      injection hA with hA
      injection hA with hA1 hA2
      subst hA1
      subst hA2
      rw [Nat.zero_add] at c0 c1 c2
      have HDK := Lib.hid hdk
      obtain ⟨dt, dn, ds⟩ := d
      have ha := (Below.refl wr.heap.size wr).alloc (Nat.le_refl _) (.cells #[.int .i64 dt, .int .i64 dn, .string ds] 43)
      have hx := check_any ⟨dt, dn, ds⟩ hok (wr.alloc (.cells #[.int .i64 dt, .int .i64 dn, .string ds] 43))
      obtain ⟨ed, hed⟩ : ∃ ed, ed = valE ⟨dt, dn, ds⟩ := ⟨_, rfl⟩
      rw [← hed] at hx
      have HED := Lib.hid hed
      clear hd hdk hed hk
      go_wp2_with fail
      refine hx.mono ?_
      clear hx
      rintro e w5 ⟨rfl, hb5⟩
      have hb15 := hbr.trans ((ha.trans (hb5.mono ha.size)).mono hbr.size)
      by_cases hz : ed = 0
      · rw [errV_zero hz]
        have HN : Hid ((1 ≤ k + 1 → valE ⟨aty, an, a_s⟩ = 0) ∧ (2 ≤ k + 1 → valE ⟨bty, bn, b_s⟩ = 0)) := by
          rcases HDK.out with ⟨rfl, h⟩ | ⟨rfl, h⟩
          · exact ⟨fun _ => by rw [← h, ← HED.out]; exact hz, fun h => absurd h (by omega)⟩
          · exact ⟨fun _ => H12.out.1 (Nat.le_refl _), fun _ => by rw [← h, ← HED.out]; exact hz⟩
        clear hz c0 c1 c2
        go_wp2_with fail
        go_roundw
        case rel => exact ⟨k + 1, by omega, by go_num, hb15, HN.out.1, HN.out.2⟩
        case measure => simp [intOf]; omega
      · have HE : Hid (errV (cmpE2 ⟨aty, an, a_s⟩ ⟨bty, bn, b_s⟩) = .iface 118 (.int .i64 ed) ∧ cmpV2 ⟨aty, an, a_s⟩ ⟨bty, bn, b_s⟩ = 0) := by
          have h0 : cmpE2 ⟨aty, an, a_s⟩ ⟨bty, bn, b_s⟩ = ed := by
            rw [HX.out.1]
            rcases HDK.out with ⟨rfl, h⟩ | ⟨rfl, h⟩
            · rw [if_neg (by rw [← h, ← HED.out]; exact hz), ← h]; exact HED.out.symm
            · rw [if_pos (H12.out.1 (Nat.le_refl _)), if_neg (by rw [← h, ← HED.out]; exact hz), ← h]; exact HED.out.symm
          exact ⟨by rw [h0]; exact errV_some hz, by rw [HX.out.2, h0, if_neg hz]⟩
        rw [errV_some hz]
        clear hz c0 c1 c2
        go_wp2_with fail
        go_ret2
        exact ⟨by rw [HE.out.1, HE.out.2]; rfl, hB1.trans (hb15.mono hB1.size)⟩
    · obtain rfl : k = 2 := by omega
      have h1 := H12.out.1 (by omega)
      have h2 := H12.out.2 (by omega)
      have hk1 := (hbr.block _ (Array.getElem?_eq_some_iff.1 hk1).1).trans hk1
      have hk2 := (hbr.block _ (Array.getElem?_eq_some_iff.1 hk2).1).trans hk2
      have x0 := block_cell hk1 0
      have x1 := block_cell hk1 1
      have x2 := block_cell hk1 2
      have y0 := block_cell hk2 0
      have y1 := block_cell hk2 1
      have y2 := block_cell hk2 2
      have hBr := hB1.trans (hbr.mono hB1.size)
      have hH : Hid (cmpE2 ⟨aty, an, a_s⟩ ⟨bty, bn, b_s⟩ = if aty = bty then 0 else 8) := by
        unfold Hid; rw [HX.out.1, if_pos h1, if_pos h2]
      have hx := vorder_any ⟨aty, an, a_s⟩ ⟨bty, bn, b_s⟩ wr
      by_cases ht : aty = bty
      · have HE : Hid (cmpE2 ⟨aty, an, a_s⟩ ⟨bty, bn, b_s⟩ = 0 ∧ cmpV2 ⟨aty, an, a_s⟩ ⟨bty, bn, b_s⟩ = ordV ⟨aty, an, a_s⟩ ⟨bty, bn, b_s⟩) := by
          have h0 : cmpE2 ⟨aty, an, a_s⟩ ⟨bty, bn, b_s⟩ = 0 := by rw [hH.out, if_pos ht]
          exact ⟨h0, by rw [HX.out.2, if_pos h0]⟩
        have htb : (aty != bty) = false := by rw [ht]; simp
        generalize ordV ⟨aty, an, a_s⟩ ⟨bty, bn, b_s⟩ = od at *
        clear ht h1 h2 hH hk hlt
        go_wp2_with fail
        refine hx.mono ?_
        clear hx
        rintro e w6 ⟨rfl, hb6⟩
        go_wp2_with fail
        go_ret2
        exact ⟨by rw [HE.out.1, HE.out.2]; rfl, hBr.trans (hb6.mono hBr.size)⟩
      · have HE : Hid (cmpE2 ⟨aty, an, a_s⟩ ⟨bty, bn, b_s⟩ = 8 ∧ cmpV2 ⟨aty, an, a_s⟩ ⟨bty, bn, b_s⟩ = 0) := by
          have h0 : cmpE2 ⟨aty, an, a_s⟩ ⟨bty, bn, b_s⟩ = 8 := by rw [hH.out, if_neg ht]
          exact ⟨h0, by rw [HX.out.2, h0]; rfl⟩
        have htb : (aty != bty) = true := bne_iff_ne.2 ht
        clear ht h1 h2 hH hk hlt hx
        go_wp2_with fail
        go_ret2
        exact ⟨by rw [HE.out.1, HE.out.2]; rfl, hBr⟩
end Go.Proofs.YtdmpkgiijddcdaaGreatDoor
