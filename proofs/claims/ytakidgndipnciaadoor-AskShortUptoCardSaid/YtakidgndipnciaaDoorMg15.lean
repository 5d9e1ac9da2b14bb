/- Parts: TxW, VpP, VpA. -/
import Derived.Test.YtakidgndipnciaaDoorMg14
import Derived.Test.YtakidgndipnciaaDoorMg06
import Derived.Test.YtakidgndipnciaaDoorMg08
import Derived.Lib.AtoiTie
/- Words in a row of the call's own, and what strings.Join makes of them. -/
namespace Go.Proofs.YtakidgndipnciaaDoor
open Go Go.RowKit

theorem map_bs (xs : List (List UInt8)) : (xs.map bs).map (·.data.toList) = xs := by
  rw [List.map_map]
  conv => rhs; rw [← List.map_id xs]
  exact List.map_congr_left fun x _ => bs_list x
/-- Words, in a row of the call's own. -/
def wv (xs : List (List UInt8)) : List Value := xs.map fun l => Value.string (bs l)
theorem wv_at {xs : List (List UInt8)} {j : Nat} {x : ByteArray} (h : (xs.map bs)[j]? = some x) : (wv xs)[j]? = some (.string x) := by
  rw [List.getElem?_map] at h
  obtain ⟨l, hl, rfl⟩ := Option.map_eq_some_iff.1 h
  unfold wv
  rw [List.getElem?_map, hl]; rfl
/-- What Join makes of them. -/
theorem join_own (B : Nat) (w : World) (bk o c : Nat) (xs : List (List UInt8)) (sep : List UInt8) (h : Own w B 9 1 (.slice (some ⟨bk, o, none⟩) xs.length c) xs.length (wv xs)) (hl : xs.length ≤ 1000) (hc : xs.length ≤ c) (hj : (Lib.join xs sep).length ≤ 1000000) :
    Calls Tryd.prog 20 #[.slice (some ⟨bk, o, none⟩) xs.length c, .string (bs sep)] w fun e w' => e = .returned (.string (bs (Lib.join xs sep))) ∧ Below w.heap.size w w' := by
  have h1 := tx_join bk o c (xs.map bs) (bs sep) w (fun j x hj => h.cell rfl (wv_at hj)) (h.lt bk rfl).2 (by rw [List.length_map]; omega) (by rw [List.length_map]; exact hc) (by rw [map_bs, bs_list]; omega)
  rw [map_bs, bs_list, List.length_map] at h1
  exact h1
open Go


theorem count_le2 {s : ByteArray} (c : UInt8) : Lib.countB s ⟨#[c]⟩ ≤ s.size + 1 := by
  have h := Lib.count_le s.data.toList [c]
  have e : s.data.toList.length = s.size := by rw [Array.length_toList]; rfl
  show Lib.count s.data.toList [c] ≤ _
  omega
/-- Each quote twice, by the library. -/
theorem doubled_any (s : ByteArray) (w : World) (h : TxP w) (hs : s.size ≤ 4294967280) :
    Calls Tryd.prog 30 #[.string s, .string ⟨#[39]⟩, .string ⟨#[39, 39]⟩] w fun e w' => e = .returned (.string (bs (dbl s.data.toList))) ∧ Below w.heap.size w w' := by
  have hc := count_le2 (s := s) 39
  have h1 : (⟨#[39, 39]⟩ : ByteArray).size = 2 := rfl
  have := tx_replace s ⟨#[39]⟩ ⟨#[39, 39]⟩ w h (by omega) (by decide) (by rw [h1]; omega)
  refine this.mono fun e w' ⟨he, hb⟩ => ⟨?_, hb⟩
  rw [he]
  show Ending.returned (.string (bs (Lib.replaceAll s.data.toList [39] [39, 39]))) = _
  rw [doubled]
theorem two_below (w : World) : Below w.heap.size w (w.alloc (.cells #[.string ⟨#[102, 97, 108, 115, 101]⟩, .string ⟨#[116, 114, 117, 101]⟩] 9)) := (Below.refl _ _).alloc (Nat.le_refl _) _
set_option maxHeartbeats 1000000 in
theorem vprint_any (v : Val) (hv : v.ok) (w : World) (hT : TxP w) :
    Calls Tryd.prog 19 #[.agg #[.int .i64 v.ty, .int .i64 v.n, .string v.s]] w fun e w' => e = .returned (.tuple #[.string (bs (if valE v = 0 then showL v else [])), errV (valE v)]) ∧ Below w.heap.size w w' := by
  obtain ⟨ty, n, s⟩ := v
  have hb0 : Below w.heap.size w (w.alloc (.cells #[.int .i64 ty, .int .i64 n, .string s] 38)) := (Below.refl _ _).alloc (Nat.le_refl _) _
  obtain ⟨x0, x1, x2⟩ := cell_box3 w (.int .i64 ty) (.int .i64 n) (.string s) 38
  have hx := check_any ⟨ty, n, s⟩ hv (w.alloc (.cells #[.int .i64 ty, .int .i64 n, .string s] 38))
  have HT := Lib.hid (hT.below hb0)
  obtain ⟨R, hR⟩ : ∃ R, R = (if valE ⟨ty, n, s⟩ = 0 then showL ⟨ty, n, s⟩ else []) := ⟨_, rfl⟩
  rw [← hR]
  have HR := Lib.hid hR
  have HP : Hid (valE ⟨ty, n, s⟩ = 0 → (ty = 1 ∧ -1000000 ≤ n ∧ n ≤ 1000000 ∧ s = .empty) ∨ (ty = 2 ∧ (n = 0 ∨ n = 1) ∧ s = .empty) ∨ (ty = 3 ∧ n = 0 ∧ s.size ≤ 20 ∧ s.data.toList.any strC = false)) := val_parts
  generalize valE ⟨ty, n, s⟩ = ee at *
  clear hT hR hv
  go_enter Tryd.func19, Tryd.ntmps19
  go_wp2_with fail
  generalize w.alloc (.cells #[.int .i64 ty, .int .i64 n, .string s] 38) = W0 at *
  refine hx.mono ?_
  clear hx
  rintro e w1 ⟨rfl, hb1⟩
  have hB1 := hb0.trans (hb1.mono hb0.size)
  have x0 := cell_below hb1 x0
  have x1 := cell_below hb1 x1
  have x2 := cell_below hb1 x2
  have HT1 := Lib.hid (HT.out.below hb1)
  by_cases hz : ee = 0
  case neg =>
    have HE : Hid (R = []) := by unfold Hid; rw [HR.out, if_neg hz]
    rw [errV_some hz]
    clear HR HP
    go_wp2_with fail
    go_ret2
    exact ⟨by rw [HE.out, errV_some hz]; rfl, hB1⟩
  rw [errV_zero hz]
  have HE : Hid (R = showL ⟨ty, n, s⟩) := by unfold Hid; rw [HR.out, if_pos hz]
  have HZ := Lib.hid hz
  rcases HP.out hz with ⟨rfl, h1, h2, rfl⟩ | ⟨rfl, h1, rfl⟩ | ⟨rfl, rfl, h1, _⟩
  · have hR : Hid (R = Lib.itoa n) := HE
    have hx := tx_itoa n (by omega) (by omega) w1 HT1.out.tab
    clear hz HR HP HE
    go_wp2_with fail
    refine hx.mono ?_
    clear hx
    rintro e w2 ⟨rfl, hb2⟩
    have hB2 := hB1.trans (hb2.mono hB1.size)
    go_wp2_with fail
    go_ret2
    exact ⟨by rw [hR.out, errV_zero HZ.out]; rfl, hB2⟩
  · rcases h1 with rfl | rfl
    · have hR : Hid (R = falseL) := HE
      have y1 := cell_below (two_below w1) x1
      clear hz HR HP HE x1
      go_wp2_with fail
      go_ret2
      exact ⟨by rw [hR.out, errV_zero HZ.out]; rfl, hB1.alloc hB1.size _⟩
    · have hR : Hid (R = trueL) := HE
      have y1 := cell_below (two_below w1) x1
      clear hz HR HP HE x1
      go_wp2_with fail
      go_ret2
      exact ⟨by rw [hR.out, errV_zero HZ.out]; rfl, hB1.alloc hB1.size _⟩
  · have hR : Hid (R = 39 :: (dbl s.data.toList ++ [39])) := HE.out.trans (show_text rfl)
    have hx := doubled_any s w1 HT1.out (by omega)
    have hl := dbl_len2 s.data.toList
    have hle : s.data.toList.length = s.size := by rw [Array.length_toList]; rfl
    have hsz : (bs (dbl s.data.toList)).size ≤ 40 := by rw [bs_size]; omega
    have hXE : Hid ((⟨#[39]⟩ ++ bs (dbl s.data.toList) ++ ⟨#[39]⟩ : ByteArray) = bs (39 :: (dbl s.data.toList ++ [39]))) := by
      unfold Hid
      show bs [39] ++ bs (dbl s.data.toList) ++ bs [39] = _
      rw [bs_append, bs_append]; simp
    generalize bs (dbl s.data.toList) = D at *
    have hc1 : ¬ 9223372036854775807 < 1 + D.size := by omega
    have hc2 : ¬ 9223372036854775807 < 1 + D.size + 1 := by omega
    clear hz HR HP HE hl hle
    go_wp2_with fail
    refine hx.mono ?_
    clear hx
    rintro e w2 ⟨rfl, hb2⟩
    have hB2 := hB1.trans (hb2.mono hB1.size)
    go_wp2_with fail
    go_ret2
    exact ⟨by rw [hR.out, errV_zero HZ.out, ← hXE.out]; rfl, hB2⟩
end Go.Proofs.YtakidgndipnciaaDoor
