/- Parts: RpA. -/
import Derived.Test.YtmbeeaohidgfgaaGreatDoorMg08
import Derived.Test.YtmbeeaohidgfgaaGreatDoorMg15
import Derived.Test.YtmbeeaohidgfgaaGreatDoorMg10
import Derived.Test.YtmbeeaohidgfgaaGreatDoorMg06
/- Contract: record.Print: a record as text. Conditions: what the library's texts lean on (TxP). -/
namespace Go.Proofs.YtmbeeaohidgfgaaGreatDoor
open Go Go.RowKit

theorem prp_text (nm : ByteArray) (l : List UInt8) : nm ++ ⟨#[61]⟩ ++ bs l = bs (nm.data.toList ++ 61 :: l) := by
  show nm ++ bs [61] ++ bs l = _
  conv => lhs; rw [← bs_of nm]
  rw [bs_append, bs_append]; simp
set_option maxHeartbeats 4000000 in
theorem rprint_any (r : List Prp) (v : Value) (w : World) (hv : Sl prpL w v r) (hT : TxP w) :
    Calls Tryz.prog 7 #[v] w fun e w' => e = .returned (.tuple #[.string (bs (if recE r = 0 then recT r else [])), errV (recE r)]) ∧ Below w.heap.size w w' := by
  obtain ⟨i0, ei, ez, ez1, ez2⟩ := info_parts str_info
  have hx := recCheck_any r v w hv
  have HV := Lib.hid hv
  have HT := Lib.hid hT
  obtain ⟨A, c, rfl, _, _⟩ := hv.form
  obtain ⟨R, hR⟩ : ∃ R, R = (if recE r = 0 then recT r else []) := ⟨_, rfl⟩
  rw [← hR]
  have HR := Lib.hid hR
  have HOK : Hid (recE r = 0 → r.length ≤ 8 ∧ (∀ p ∈ r, prpE p = 0)) := fun h => ⟨(rec_ok h).1, (rec_ok h).2.1⟩
  have HRL : Hid (recE r = 0 → (recT r).length ≤ 417) := rec_len
  generalize recE r = ee at *
  clear hT hR hv
  go_enter Tryz.func7, Tryz.ntmps7
  go_wp2_with fail
  refine hx.mono ?_
  clear hx
  rintro e w1 ⟨rfl, hb1⟩
  by_cases hz : ee = 0
  case neg =>
    have HE : Hid (R = []) := by unfold Hid; rw [HR.out, if_neg hz]
    rw [errV_some hz]
    clear HR HOK HRL
    go_wp2_with fail
    go_ret2
    exact ⟨by rw [HE.out, errV_some hz]; rfl, hb1⟩
  rw [errV_zero hz]
  have HE : Hid (R = recT r) := by unfold Hid; rw [HR.out, if_pos hz]
  obtain ⟨hl8, hok⟩ := HOK.out hz
  have HP : Hid (∀ p ∈ r, prpE p = 0) := hok
  have hrl := HRL.out hz
  have HL := Lib.hid hrl
  have HZ := Lib.hid hz
  have HV1 := Lib.hid (HV.out.below hb1)
  have HT1 := Lib.hid (HT.out.below hb1)
  clear hz HR HOK HRL hok hrl HV HT
  go_wp2_with fail
  go_loopw [5, 7, 8, 9, 17] (fun x5 _ _ _ i wr => ∃ k : Nat, k ≤ r.length ∧ i = .int .i64 k ∧ Below w1.heap.size w1 wr ∧ Hid (Own wr w1.heap.size 9 1 x5 k (wv ((r.take k).map prpT)))) (fun _ _ _ _ i _ => r.length - (intOf i).toNat)
  case atStart => exact ⟨0, Nat.zero_le _, rfl, Below.refl _ _, Own.nil _ _ _ _⟩
  case round =>
    obtain ⟨k, hk, rfl, hbr, HO⟩ := hrel
    obtain ⟨wo, hwo⟩ : ∃ wo : World, wo = wr := ⟨_, rfl⟩
    subst hwo
    obtain ⟨A5, c5, rfl, hc5, _⟩ := HO.out.form
    by_cases hlt : k < r.length
    · obtain ⟨d, hd⟩ : ∃ d, r[k]? = some d := ⟨_, List.getElem?_eq_getElem hlt⟩
      have hlt' : (k : Int) < (r.length : Int) := by omega
      obtain ⟨gb, o, rfl, hdok, q0, q1, q2, q3⟩ := prp_at (HV1.out.below hbr) hd
      have hpe := HP.out d (List.mem_of_getElem? hd)
      obtain ⟨_, hve⟩ := prp_parts hpe
      have hn8 : d.name.size ≤ 8 := by have := name_len (prp_parts hpe).1; rw [Array.length_toList] at this; exact this
      have HSN : Hid (wv ((r.take (k + 1)).map prpT) = wv ((r.take k).map prpT) ++ [.string (bs (prpT d))]) := by
        unfold Hid wv
        rw [List.take_add_one, hd]; simp
      obtain ⟨nm, ⟨dt, dn, ds⟩⟩ := d
      have ha := (Below.refl wo.heap.size wo).alloc (Nat.le_refl _) (.cells #[.string nm, .int .i64 dt, .int .i64 dn, .string ds] 27)
      have hbk := heap_alloc_new wo (.cells #[.string nm, .int .i64 dt, .int .i64 dn, .string ds] 27)
      have hx := vprint_any ⟨dt, dn, ds⟩ hdok.2 _ ((HT1.out.below hbr).below ha)
      rw [hve, if_pos rfl, errV_zero rfl] at hx
      have hsl := show_len hve
      have hTX : Hid (nm ++ ⟨#[61]⟩ ++ bs (showL ⟨dt, dn, ds⟩) = bs (prpT ⟨nm, dt, dn, ds⟩)) := prp_text _ _
      have hss : (bs (showL ⟨dt, dn, ds⟩)).size ≤ 42 := by rw [bs_size]; exact hsl
      generalize bs (showL ⟨dt, dn, ds⟩) = sh at *
      clear hd hpe hve hdok hsl hk
      go_upto_region 8 with fail
      generalize wo.alloc (.cells #[.string nm, .int .i64 dt, .int .i64 dn, .string ds] 27) = w3 at *
      clear q0 q1 q2 q3
      have z0 := block_cell hbk 0
      have z1 := block_cell hbk 1
      have z2 := block_cell hbk 2
      have z3 := block_cell hbk 3
      go_wp2_with fail
      refine hx.mono ?_
      clear hx
      rintro e w4 ⟨rfl, hb4⟩
      have hb14 := ha.trans (hb4.mono ha.size)
      have z0 := cell_below hb4 z0
      have HO4 := Lib.hid (HO.out.below hb14)
      have hB4 := hbr.trans (hb14.mono hbr.size)
      have hs4 := hB4.size
      have hc1 : ¬ 9223372036854775807 < nm.size + 1 := by omega
      have hc2 : ¬ 9223372036854775807 < nm.size + 1 + sh.size := by omega
      have HOA : Hid (Own (w4.alloc (.cells #[.string (nm ++ ⟨#[61]⟩ ++ sh)] 9)) w1.heap.size 9 1 (.slice A5 k c5) k (wv ((r.take k).map prpT))) := HO4.out.alloc _
      have HN : Hid (∀ j u, ([.string (nm ++ ⟨#[61]⟩ ++ sh)] : List Value)[j]? = some u → (w4.alloc (.cells #[.string (nm ++ ⟨#[61]⟩ ++ sh)] 9)).cell? ⟨w4.heap.size, j, none⟩ = some u) := fun j u hj => by
        rw [World.cell?_alloc_at _ _ _ _ rfl]; simpa using hj
      have hA4 := hB4.alloc hs4 (.cells #[.string (nm ++ ⟨#[61]⟩ ++ sh)] 9)
      clear HO HO4 hb4 hb14 ha z1 z2 z3 hbk hB4
      go_wp2_with (at_builtin; refine wpList_append_q _ rfl (.tmp 30) (.tmp 36) _ rfl w1.heap.size 9 i0 (.string .empty) 1 16 Tryz.underlying50 ei ez ez1 ez2 rfl (by decide) (.slice A5 k c5) k (wv ((r.take k).map prpT)) rfl HOA.out (some ⟨w4.heap.size, 0, none⟩) 1 1 [.string (nm ++ ⟨#[61]⟩ ++ sh)] rfl rfl (fun _ => ⟨_, rfl, fun j u hj => by rw [addr_add, Nat.zero_add]; exact HN.out j u hj⟩) (fun u hu => by simp at hu; subst hu; rfl) (by unfold maxLen; omega) (by omega) (by have := hA4.size; exact this) ?_; intro v9 w9 hown9 hg9 hat9)
      have hB9 : Below w1.heap.size w1 w9 := hA4.grown hg9 hA4.size (fun kk e => (HOA.out.lt kk e).1)
      have HO9 : Hid (Own w9 w1.heap.size 9 1 v9 (k + 1) (wv ((r.take (k + 1)).map prpT))) := by unfold Hid; rw [HSN.out, ← hTX.out]; exact hown9
      clear hg9 hat9 hown9 HOA HN hA4 z0
      go_wp2_with fail
      go_roundw
      case rel => exact ⟨k + 1, by omega, by go_num, hB9, HO9⟩
      case measure => simp [intOf]; omega
    · obtain rfl : k = r.length := by omega
      have HO2 : Hid (Own wo w1.heap.size 9 1 (.slice A5 r.length c5) (r.map prpT).length (wv (r.map prpT))) := by
        have := HO.out
        rw [List.take_length] at this
        unfold Hid; rw [List.length_map]; exact this
      have hB := hb1.trans (hbr.mono hb1.size)
      have hdn : decide (r.length < r.length) = false := by simp
      by_cases h0 : r.length = 0
      · have HE0 : Hid (R = [45]) := by unfold Hid; rw [HE.out]; unfold recT; rw [if_pos h0]
        have h0b : ((r.length : Int) == 0) = true := by rw [h0]; rfl
        clear h0 HE HO HO2 hlt hk
        go_wp2_with fail
        go_ret2
        exact ⟨by rw [HE0.out, errV_zero HZ.out]; rfl, hB⟩
      · have HE0 : Hid (R = Lib.join (r.map prpT) [44]) := by unfold Hid; rw [HE.out]; unfold recT; rw [if_neg h0]
        have h0b : ((r.length : Int) == 0) = false := by rw [beq_eq_false_iff_ne]; omega
        have hlm : (r.map prpT).length = r.length := List.length_map _
        obtain ⟨g9, o9, c9, hv9, _, _⟩ := HO2.out.addr (by omega)
        injection hv9 with e1 e2 e3
        subst e1
        subst e3
        have hx := join_own w1.heap.size wo g9 o9 c5 (r.map prpT) [44] (by have h9 := HO2.out; rw [hlm] at h9 ⊢; exact h9) (by omega) (by omega) (by rw [← HE0.out, HE.out]; have := HL.out; omega)
        rw [hlm, ← HE0.out] at hx
        clear h0 HE HO HO2 hlt hk e2
        go_wp2_with fail
        refine hx.mono ?_
        clear hx
        rintro e w8 ⟨rfl, hb8⟩
        go_wp2_with fail
        go_ret2
        exact ⟨by rw [errV_zero HZ.out]; rfl, hB.trans (hb8.mono hB.size)⟩
end Go.Proofs.YtmbeeaohidgfgaaGreatDoor
