/- Parts: VpA, VpT. -/
import Derived.Test.YtakidgndipnciaaDoorMg07
import Derived.Test.YtakidgndipnciaaDoorMg05
import Derived.Test.YtakidgndipnciaaDoorMg09
import Derived.Deep.RegionHeld3
/- Contract: value.Print: a value as text. Conditions: what the library's texts lean on (TxP). -/
namespace Go.Proofs.YtakidgndipnciaaDoor
open Go Go.RowKit

theorem count_le2 {s : ByteArray} (c : UInt8) : Lib.countB s ⟨#[c]⟩ ≤ s.size + 1 := by
  have h := Lib.count_le s.data.toList [c]
  have e : s.data.toList.length = s.size := by rw [Array.length_toList]; rfl
  show Lib.count s.data.toList [c] ≤ _
  omega
/-- Each quote twice, by the library. -/
theorem doubled_any (s : ByteArray) (w : World) (h : TxP w) (hs : s.size ≤ 4294967280) :
    Calls Tryd.prog 30 #[.string s, .string ⟨#[39]⟩, .string ⟨#[39, 39]⟩] w fun e w' => e = .returned (.string (bs (dbl s.data.toList))) ∧ Below w.heap.size w w' := by
  have hc := count_le2 (s := s) 39
  have h1 : (⟨#[39, 39]⟩ : ByteArray).size = 2 := rfl
  have := tx_replace s ⟨#[39]⟩ ⟨#[39, 39]⟩ w h (by omega) (by decide) (by rw [h1]; omega)
  refine this.mono fun e w' ⟨he, hb⟩ => ⟨?_, hb⟩
  rw [he]
  show Ending.returned (.string (bs (Lib.replaceAll s.data.toList [39] [39, 39]))) = _
  rw [doubled]
theorem two_below (w : World) : Below w.heap.size w (w.alloc (.cells #[.string ⟨#[102, 97, 108, 115, 101]⟩, .string ⟨#[116, 114, 117, 101]⟩] 9)) := (Below.refl _ _).alloc (Nat.le_refl _) _
set_option maxHeartbeats 1000000 in
theorem vprint_any (v : Val) (hv : v.ok) (w : World) (hT : TxP w) :
    Calls Tryd.prog 19 #[.agg #[.int .i64 v.ty, .int .i64 v.n, .string v.s]] w fun e w' => e = .returned (.tuple #[.string (bs (if valE v = 0 then showL v else [])), errV (valE v)]) ∧ Below w.heap.size w w' := by
  obtain ⟨ty, n, s⟩ := v
  have hb0 : Below w.heap.size w (w.alloc (.cells #[.int .i64 ty, .int .i64 n, .string s] 38)) := (Below.refl _ _).alloc (Nat.le_refl _) _
  obtain ⟨x0, x1, x2⟩ := cell_box3 w (.int .i64 ty) (.int .i64 n) (.string s) 38
  have hx := check_any ⟨ty, n, s⟩ hv (w.alloc (.cells #[.int .i64 ty, .int .i64 n, .string s] 38))
  have HT := Lib.hid (hT.below hb0)
  obtain ⟨R, hR⟩ : ∃ R, R = (if valE ⟨ty, n, s⟩ = 0 then showL ⟨ty, n, s⟩ else []) := ⟨_, rfl⟩
  rw [← hR]
  have HR := Lib.hid hR
  have HP : Hid (valE ⟨ty, n, s⟩ = 0 → (ty = 1 ∧ -1000000 ≤ n ∧ n ≤ 1000000 ∧ s = .empty) ∨ (ty = 2 ∧ (n = 0 ∨ n = 1) ∧ s = .empty) ∨ (ty = 3 ∧ n = 0 ∧ s.size ≤ 20 ∧ s.data.toList.any strC = false)) := val_parts
  generalize valE ⟨ty, n, s⟩ = ee at *
  clear hT hR hv
  go_enter Tryd.func19, Tryd.ntmps19
  go_wp2_with fail
  generalize w.alloc (.cells #[.int .i64 ty, .int .i64 n, .string s] 38) = W0 at *
  refine hx.mono ?_
  clear hx
  rintro e w1 ⟨rfl, hb1⟩
  have hB1 := hb0.trans (hb1.mono hb0.size)
  have x0 := cell_below hb1 x0
  have x1 := cell_below hb1 x1
  have x2 := cell_below hb1 x2
  have HT1 := Lib.hid (HT.out.below hb1)
  by_cases hz : ee = 0
  case neg =>
    have HE : Hid (R = []) := by unfold Hid; rw [HR.out, if_neg hz]
    rw [errV_some hz]
    clear HR HP
    go_wp2_with fail
    go_ret2
    exact ⟨by rw [HE.out, errV_some hz]; rfl, hB1⟩
  rw [errV_zero hz]
  have HE : Hid (R = showL ⟨ty, n, s⟩) := by unfold Hid; rw [HR.out, if_pos hz]
  have HZ := Lib.hid hz
  rcases HP.out hz with ⟨rfl, h1, h2, rfl⟩ | ⟨rfl, h1, rfl⟩ | ⟨rfl, rfl, h1, _⟩
  · have hR : Hid (R = Lib.itoa n) := HE
    have hx := tx_itoa n (by omega) (by omega) w1 HT1.out.tab
    clear hz HR HP HE
    go_wp2_with fail
    refine hx.mono ?_
    clear hx
    rintro e w2 ⟨rfl, hb2⟩
    have hB2 := hB1.trans (hb2.mono hB1.size)
    go_wp2_with fail
    go_ret2
    exact ⟨by rw [hR.out, errV_zero HZ.out]; rfl, hB2⟩
  · rcases h1 with rfl | rfl
    · have hR : Hid (R = falseL) := HE
      have y1 := cell_below (two_below w1) x1
      clear hz HR HP HE x1
      go_wp2_with fail
      go_ret2
      exact ⟨by rw [hR.out, errV_zero HZ.out]; rfl, hB1.alloc hB1.size _⟩
    · have hR : Hid (R = trueL) := HE
      have y1 := cell_below (two_below w1) x1
      clear hz HR HP HE x1
      go_wp2_with fail
      go_ret2
      exact ⟨by rw [hR.out, errV_zero HZ.out]; rfl, hB1.alloc hB1.size _⟩
  · have hR : Hid (R = 39 :: (dbl s.data.toList ++ [39])) := HE.out.trans (show_text rfl)
    have hx := doubled_any s w1 HT1.out (by omega)
    have hl := dbl_len2 s.data.toList
    have hle : s.data.toList.length = s.size := by rw [Array.length_toList]; rfl
    have hsz : (bs (dbl s.data.toList)).size ≤ 40 := by rw [bs_size]; omega
    have hXE : Hid ((⟨#[39]⟩ ++ bs (dbl s.data.toList) ++ ⟨#[39]⟩ : ByteArray) = bs (39 :: (dbl s.data.toList ++ [39]))) := by
      unfold Hid
      show bs [39] ++ bs (dbl s.data.toList) ++ bs [39] = _
      rw [bs_append, bs_append]; simp
    generalize bs (dbl s.data.toList) = D at *
    have hc1 : ¬ 9223372036854775807 < 1 + D.size := by omega
    have hc2 : ¬ 9223372036854775807 < 1 + D.size + 1 := by omega
    clear hz HR HP HE hl hle
    go_wp2_with fail
    refine hx.mono ?_
    clear hx
    rintro e w2 ⟨rfl, hb2⟩
    have hB2 := hB1.trans (hb2.mono hB1.size)
    go_wp2_with fail
    go_ret2
    exact ⟨by rw [hR.out, errV_zero HZ.out, ← hXE.out]; rfl, hB2⟩


def textE (l : List UInt8) : Int := if quotB l = true then (if 20 < (bodyL l).length then 4 else 0) else 2
def textV (l : List UInt8) : Val := if quotB l = true then ⟨3, 0, bs (bodyL l)⟩ else ⟨0, 0, .empty⟩
theorem quot_last {l : List UInt8} (h : quotB l = true) : l.getLast? = some 39 ∧ 2 ≤ l.length := by
  obtain ⟨u, rfl, _⟩ := quot_iff.1 h
  constructor
  · rw [← List.cons_append, List.getLast?_append]; rfl
  · simp
theorem text_bad {l : List UInt8} (h : quotB l ≠ true) : textE l = 2 ∧ textV l = ⟨0, 0, .empty⟩ := by
  unfold textE textV; rw [if_neg h, if_neg h]; exact ⟨rfl, rfl⟩
theorem last_of (s : ByteArray) (m : Nat) (hm : s.size = m + 1) : s.data.toList.getLast? = some (s[m]'(by omega)) := by
  have hl : s.data.toList.length = m + 1 := by rw [Array.length_toList]; exact hm
  rw [List.getLast?_eq_getElem?, hl]
  show s.data.toList[m]? = _
  rw [List.getElem?_eq_getElem (by omega)]; rfl
theorem replK_len : ∀ (k : Nat) (l : List UInt8), (Lib.replaceK [39, 39] [39] k l).length ≤ l.length + k
  | 0, l => by show l.length ≤ _; omega
  | k + 1, l => by
    by_cases h : Lib.index l [39, 39] = -1
    · have e : Lib.replaceK [39, 39] [39] (k + 1) l = l := by unfold Lib.replaceK; rw [h]; simp
      rw [e]; omega
    · have hge := Lib.index_ge l [39, 39]
      obtain ⟨i, hi⟩ : ∃ i : Nat, Lib.index l [39, 39] = i := ⟨(Lib.index l [39, 39]).toNat, by omega⟩
      have hr := Lib.index_room l [39, 39] (by omega)
      rw [Lib.replaceK_hit _ _ _ _ _ hi]
      have ih := replK_len k (l.drop (i + ([39, 39] : List UInt8).length))
      have e2 : ([39, 39] : List UInt8).length = 2 := rfl
      have e1 : ([39] : List UInt8).length = 1 := rfl
      rw [e2] at ih hr ⊢
      rw [List.length_drop] at ih
      simp only [List.length_append, List.length_take, e1]
      omega
theorem body_len (l : List UInt8) : (bodyL l).length ≤ 2 * l.length + 1 := by
  unfold bodyL
  rw [replaceAll_eq (by decide)]
  have h1 := replK_len (Lib.count ((l.drop 1).take (l.length - 2)) [39, 39]) ((l.drop 1).take (l.length - 2))
  have h2 := Lib.count_le ((l.drop 1).take (l.length - 2)) [39, 39]
  have h3 : ((l.drop 1).take (l.length - 2)).length ≤ l.length := by rw [List.length_take, List.length_drop]; omega
  rw [List.length_take, List.length_drop] at h1 h2 h3
  omega
set_option maxHeartbeats 2000000 in
theorem text_any (s : ByteArray) (hs : Sm s) (w : World) (hT : TxP w) :
    Calls Tryd.prog 59 #[.string s] w fun e w' => e = .returned (.tuple #[.agg #[.int .i64 (textV s.data.toList).ty, .int .i64 (textV s.data.toList).n, .string (textV s.data.toList).s], errV (textE s.data.toList)]) ∧ Below w.heap.size w w' := by
  have hb0 : Below w.heap.size w (w.alloc (.cells #[.int .i64 0, .int .i64 0, .string ⟨#[]⟩] 38)) := (Below.refl _ _).alloc (Nat.le_refl _) _
  have hbk := heap_alloc_new w (.cells #[.int .i64 0, .int .i64 0, .string ⟨#[]⟩] 38)
  have HT := Lib.hid (hT.below hb0)
  have hle : s.data.toList.length = s.size := by rw [Array.length_toList]; rfl
  unfold Sm at hs
  by_cases h2 : s.size < 2
  · have HE : Hid (textE s.data.toList = 2 ∧ textV s.data.toList = ⟨0, 0, .empty⟩) := text_bad fun h => by have := (quot_last h).2; omega
    have h2' : (s.size : Int) < 2 := by omega
    clear hT HT hle h2
    go_enter Tryd.func59, Tryd.ntmps59
    go_wp2_with fail
    exact bodyPost_ret (v := .tuple #[.agg #[.int .i64 0, .int .i64 0, .string ⟨#[]⟩], .iface 46 (.int .i64 2)]) (by simp [results, Tryd.results59, go_sem]) rfl ⟨by rw [HE.out.1, HE.out.2]; rfl, hb0⟩
  obtain ⟨m, hm⟩ : ∃ m, s.size = m + 1 := ⟨s.size - 1, by omega⟩
  by_cases h3 : s[m]'(by omega) = 39
  case neg =>
    have HE : Hid (textE s.data.toList = 2 ∧ textV s.data.toList = ⟨0, 0, .empty⟩) := text_bad fun h => by
      have := (quot_last h).1
      rw [last_of s m hm] at this
      exact h3 (Option.some.inj this)
    have hA : decide ((m : Int) + 1 < 2) = false := decide_eq_false (by omega)
    have hB : (((s[m]'(by omega)).toNat : Int) != 39) = true := by
      rw [bne_iff_ne]
      intro e
      exact h3 (UInt8.toNat_inj.1 (by show (s[m]'(by omega)).toNat = 39; omega))
    clear hT HT h2 h3
    go_enter Tryd.func59, Tryd.ntmps59
    go_wp2_with fail
    exact bodyPost_ret (v := .tuple #[.agg #[.int .i64 0, .int .i64 0, .string ⟨#[]⟩], .iface 46 (.int .i64 2)]) (by simp [results, Tryd.results59, go_sem]) rfl ⟨by rw [HE.out.1, HE.out.2]; rfl, hb0⟩
  have hA : decide ((m : Int) + 1 < 2) = false := decide_eq_false (by omega)
  have hB : (((s[m]'(by omega)).toNat : Int) != 39) = false := by rw [h3]; rfl
  have hex : (s.extract 1 m).data.toList = (s.data.toList.drop 1).take (s.data.toList.length - 2) := by
    rw [Lib.extract_data, hle, hm]
    have : m + 1 - 2 = m - 1 := by omega
    rw [this]
  have hxs : (s.extract 1 m).size ≤ 1048576 := by
    have : (s.extract 1 m).data.toList.length = (s.extract 1 m).size := by rw [Array.length_toList]; rfl
    rw [hex, List.length_take] at this
    omega
  have hcn : Lib.countB (s.extract 1 m) ⟨#[39, 39]⟩ ≤ 1048577 := by
    have h := Lib.count_le (s.extract 1 m).data.toList [39, 39]
    have e : (s.extract 1 m).data.toList.length = (s.extract 1 m).size := by rw [Array.length_toList]; rfl
    show Lib.count (s.extract 1 m).data.toList [39, 39] ≤ _
    omega
  have hx := tx_replace (s.extract 1 m) ⟨#[39, 39]⟩ ⟨#[39]⟩ _ HT.out (by omega) (by decide) (by have : (⟨#[39]⟩ : ByteArray).size = 1 := rfl; rw [this]; omega)
  rw [hex] at hx
  have hx : Calls Tryd.prog 30 #[.string (s.extract 1 m), .string ⟨#[39, 39]⟩, .string ⟨#[39]⟩] (w.alloc (.cells #[.int .i64 0, .int .i64 0, .string ⟨#[]⟩] 38)) fun e w' => e = .returned (.string (bs (bodyL s.data.toList))) ∧ Below (w.alloc (.cells #[.int .i64 0, .int .i64 0, .string ⟨#[]⟩] 38)).heap.size (w.alloc (.cells #[.int .i64 0, .int .i64 0, .string ⟨#[]⟩] 38)) w' := hx
  have hQ : quotB s.data.toList = (decide (s = bs (39 :: (dbl (bodyL s.data.toList) ++ [39]))) && !(bodyL s.data.toList).any strC) := by
    unfold quotB
    have e1 : decide (2 ≤ s.data.toList.length) = true := decide_eq_true (by omega)
    have e2 : (s.data.toList = 39 :: (dbl (bodyL s.data.toList) ++ [39])) ↔ s = bs (39 :: (dbl (bodyL s.data.toList) ++ [39])) :=
      ⟨fun e => by rw [← e, bs_of], fun e => by conv => lhs; rw [e, bs_list]⟩
    rw [e1, decide_eq_decide.2 e2]; rfl
  have HX := Lib.hid hex
  have HE : Hid (textE s.data.toList = (if quotB s.data.toList = true then (if 20 < (bodyL s.data.toList).length then 4 else 0) else 2) ∧ textV s.data.toList = (if quotB s.data.toList = true then ⟨3, 0, bs (bodyL s.data.toList)⟩ else ⟨0, 0, .empty⟩)) := ⟨rfl, rfl⟩
  have hbl : (bodyL s.data.toList).length ≤ 2097153 := by have := body_len s.data.toList; omega
  have hm1 : (1 : Int) ≤ (m : Int) := by omega
  generalize bodyL s.data.toList = D at *
  have HQ := Lib.hid hQ
  clear hT h2 hex hcn hQ
  go_enter Tryd.func59, Tryd.ntmps59
  go_wp2_with fail
  generalize w.alloc (.cells #[.int .i64 0, .int .i64 0, .string ⟨#[]⟩] 38) = W0 at *
  refine hx.mono ?_
  clear hx
  rintro e w1 ⟨rfl, hb1⟩
  have hB1 := hb0.trans (hb1.mono hb0.size)
  have hbk1 := (hb1.block _ (Array.getElem?_eq_some_iff.1 hbk).1).trans hbk
  have HT1 := Lib.hid (HT.out.below hb1)
  have hs1 : w.heap.size < w1.heap.size := (Array.getElem?_eq_some_iff.1 hbk1).1
  have hbk2 := heap_alloc_new w1 (.cells #[.int .i64 3, .int .i64 0, .string (bs D)] 38)
  have ha2 : Below w1.heap.size w1 (w1.alloc (.cells #[.int .i64 3, .int .i64 0, .string (bs D)] 38)) := (Below.refl _ _).alloc (Nat.le_refl _) _
  have hx := doubled_any (bs D) _ (HT1.out.below ha2) (by rw [bs_size]; omega)
  rw [bs_list] at hx
  have hdl := dbl_len2 D
  have hsz : (bs (dbl D)).size ≤ 4194306 := by rw [bs_size]; omega
  have hXE : Hid ((⟨#[39]⟩ ++ bs (dbl D) ++ ⟨#[39]⟩ : ByteArray) = bs (39 :: (dbl D ++ [39]))) := by
    unfold Hid
    show bs [39] ++ bs (dbl D) ++ bs [39] = _
    rw [bs_append, bs_append]; simp
  have hbk1 := (ha2.block _ (Array.getElem?_eq_some_iff.1 hbk1).1).trans hbk1
  clear hb1 hbk h3 HT hdl
  go_wp2_with fail
  generalize w1.alloc (.cells #[.int .i64 3, .int .i64 0, .string (bs D)] 38) = w2 at *
  generalize bs (dbl D) = DD at *
  have hc1 : ¬ 9223372036854775807 < 1 + DD.size := by omega
  have hc2 : ¬ 9223372036854775807 < 1 + DD.size + 1 := by omega
  refine hx.mono ?_
  clear hx
  rintro e w3 ⟨rfl, hb3⟩
  have hB2 := hB1.trans (ha2.mono hB1.size)
  have hB3 := hB2.trans (hb3.mono hB2.size)
  have hbk1 := (hb3.block _ (Array.getElem?_eq_some_iff.1 hbk1).1).trans hbk1
  have hbk2 := (hb3.block _ (Array.getElem?_eq_some_iff.1 hbk2).1).trans hbk2
  have HT3 := Lib.hid ((HT1.out.below ha2).below hb3)
  clear hb3 ha2 HT1 hbl
  have HE0 := Lib.hid (HE.out)
  by_cases hG : s = bs (39 :: (dbl D ++ [39]))
  case neg =>
    have hS : (!(⟨#[39]⟩ ++ DD ++ ⟨#[39]⟩ : ByteArray).toList == s.toList) = true := by
      rw [hXE.out, Bool.not_eq_true', beq_eq_false_iff_ne]
      intro e
      rw [bytes_eq] at e
      exact hG e.symm
    have HE : Hid (textE s.data.toList = 2 ∧ textV s.data.toList = ⟨0, 0, .empty⟩) := text_bad fun h => by
      rw [HQ.out, decide_eq_false hG] at h; cases h
    clear HQ HE0 hXE hG
    -- hB3: above w; hbk1: the block there
    obtain ⟨k1, k2, k3, k4⟩ := res3 (.int .i64 0) (.int .i64 0) (.string ⟨#[]⟩) hB3 hbk1
    have y0 := block_cell hbk1 0
    have y1 := block_cell hbk1 1
    have y2 := block_cell hbk1 2
    have g0 := block_free hbk1 0
    have g1 := block_free hbk1 1
    have g2 := block_free hbk1 2
    go_wp2_with fail
    exact bodyPost_ret (v := .tuple #[.agg #[.int .i64 0, .int .i64 0, .string ⟨#[]⟩], .iface 46 (.int .i64 2)]) (by simp [results, Tryd.results59, go_sem, k2, k3, k4]) rfl ⟨by rw [HE.out.1, HE.out.2]; rfl, k1⟩
  have hS : (!(⟨#[39]⟩ ++ DD ++ ⟨#[39]⟩ : ByteArray).toList == s.toList) = false := by
    rw [hXE.out, ← hG]; simp
  have hDl : D.length + 2 ≤ s.size := by
    rw [hG, bs_size]
    have := dbl_len D
    simp; omega
  have hDs : Sm (bs D) := by unfold Sm; rw [bs_size]; omega
  have HQ2 : Hid (quotB s.data.toList = !D.any strC) := by unfold Hid; rw [HQ.out, decide_eq_true hG]; rfl
  have hDe : (bs D).size = D.length := bs_size D
  have hcv := fun wx => Lib.run_convert_string_bytes (P := Tryd.prog) wx 9 44 5 (bs D) Tryd.underlying9 Tryd.underlying44 Tryd.underlying5
  obtain ⟨hsl, hb4⟩ := bytes_sl w3 (bs D) hDs
  rw [bs_list] at hsl
  have HSL := Lib.hid hsl
  have hB4 := hB3.trans (hb4.mono hB3.size)
  have hbk1 := (hb4.block _ (Array.getElem?_eq_some_iff.1 hbk1).1).trans hbk1
  have hbk2x := (hb4.block _ (Array.getElem?_eq_some_iff.1 hbk2).1).trans hbk2
  have y2 := block_cell hbk2 2
  have HDE := Lib.hid hDe
  have HBK := Lib.hid hbk2x
  clear HQ hXE hG hsl hbk2 hDe hbk2x
  go_wp2_with fail
  generalize Lib.bytesWorld w3 5 (bs D) = w4 at *
  go_loop [6, 40] (fun _ i => ∃ k : Nat, k ≤ D.length ∧ i = .int .i64 k ∧ (D.take k).any strC = false) (fun _ i => D.length - (intOf i).toNat)
  case atStart => exact ⟨0, Nat.zero_le _, rfl, rfl⟩
  case round =>
    obtain ⟨k, hk, rfl, hst⟩ := hrel
    have HST := Lib.hid hst
    clear hst
    by_cases hlt : k < D.length
    · obtain ⟨d, hd⟩ : ∃ d, D[k]? = some d := ⟨_, List.getElem?_eq_getElem hlt⟩
      obtain ⟨b, o, hbo, hcell⟩ := byte_at HSL.out hd
      injection hbo with hbo
      injection hbo with hbo1 hbo2
      subst hbo1
      subst hbo2
      rw [Nat.zero_add] at hcell
      have HD : Hid ((D.take (k + 1)).any strC = strC d) := by
        unfold Hid
        rw [List.take_add_one, hd, List.any_append, HST.out]; simp
      have hDn : ((bs D).size : Int) = (D.length : Int) := by rw [HDE.out]
      have hlt' : (k : Int) < ((bs D).size : Int) := by omega
      clear hd hk
      have hbad : strC d = true → textE s.data.toList = 2 ∧ textV s.data.toList = ⟨0, 0, .empty⟩ := fun h => text_bad fun hq => by
        rw [HQ2.out] at hq
        have h1 : D.any strC = true := by
          rw [← HD.out] at h
          obtain ⟨x, hx, hx2⟩ := List.any_eq_true.1 h
          exact List.any_eq_true.2 ⟨x, List.mem_of_mem_take hx, hx2⟩
        rw [h1] at hq; cases hq
      by_cases h1 : (d.toNat : Int) < 32
      · have HE : Hid (textE s.data.toList = 2 ∧ textV s.data.toList = ⟨0, 0, .empty⟩) := hbad (by unfold strC; simp; omega)
        clear hbad HE0 HD HST
        -- hB4: above w; hbk1: the block there
        obtain ⟨k1, k2, k3, k4⟩ := res3 (.int .i64 0) (.int .i64 0) (.string ⟨#[]⟩) hB4 hbk1
        have y0 := block_cell hbk1 0
        have y1 := block_cell hbk1 1
        have y2 := block_cell hbk1 2
        have g0 := block_free hbk1 0
        have g1 := block_free hbk1 1
        have g2 := block_free hbk1 2
        go_wp2_with fail
        exact bodyPost_ret (v := .tuple #[.agg #[.int .i64 0, .int .i64 0, .string ⟨#[]⟩], .iface 46 (.int .i64 2)]) (by simp [results, Tryd.results59, go_sem, k2, k3, k4]) rfl ⟨by rw [HE.out.1, HE.out.2]; rfl, k1⟩
      · by_cases h2 : 126 < (d.toNat : Int)
        · have HE : Hid (textE s.data.toList = 2 ∧ textV s.data.toList = ⟨0, 0, .empty⟩) := hbad (by unfold strC; simp; omega)
          clear hbad HE0 HD HST
          -- hB4: above w; hbk1: the block there
          obtain ⟨k1, k2, k3, k4⟩ := res3 (.int .i64 0) (.int .i64 0) (.string ⟨#[]⟩) hB4 hbk1
          have y0 := block_cell hbk1 0
          have y1 := block_cell hbk1 1
          have y2 := block_cell hbk1 2
          have g0 := block_free hbk1 0
          have g1 := block_free hbk1 1
          have g2 := block_free hbk1 2
          go_wp2_with fail
          exact bodyPost_ret (v := .tuple #[.agg #[.int .i64 0, .int .i64 0, .string ⟨#[]⟩], .iface 46 (.int .i64 2)]) (by simp [results, Tryd.results59, go_sem, k2, k3, k4]) rfl ⟨by rw [HE.out.1, HE.out.2]; rfl, k1⟩
        · have HN : Hid ((D.take (k + 1)).any strC = false) := by
            unfold Hid
            rw [HD.out]
            unfold strC; simp; omega
          clear hbad
          go_wp2_with fail
          go_round
          case rel => exact ⟨k + 1, by omega, by go_num, HN.out⟩
          case measure => simp [intOf]; omega
    · obtain rfl : k = D.length := by omega
      have hq : quotB s.data.toList = true := by
        have := HST.out
        rw [List.take_length] at this
        rw [HQ2.out, this]; rfl
      have HE : Hid (textE s.data.toList = valE ⟨3, 0, bs D⟩ ∧ textV s.data.toList = ⟨3, 0, bs D⟩) := by
        have h0 := HST.out
        rw [List.take_length] at h0
        unfold Hid
        rw [HE0.out.1, HE0.out.2, if_pos hq, if_pos hq]
        refine ⟨?_, rfl⟩
        unfold valE valLo valHi
        simp only [bs_size, bs_list, h0]
        simp
      have hck := check_any ⟨3, 0, bs D⟩ ⟨by show I64 3; unfold I64; omega, by show I64 0; unfold I64; omega, hDs⟩
      have hDn : decide (D.length < (bs D).size) = false := by rw [HDE.out]; simp
      generalize valE ⟨3, 0, bs D⟩ = ee at *
      have hkeep := And.intro (block_cell HBK.out 0) (And.intro (block_cell HBK.out 1) (block_cell HBK.out 2))
      have hne : w.heap.size ≠ w1.heap.size := by omega
      have hd4 : Below w4.heap.size w4 w4.drew := (Below.refl _ _).drew
      clear hq HE0 HST hlt hk
      go_wp2_with fail
      go_region_held3 (fun w' => w'.cell? ⟨w1.heap.size, 0, none⟩ = some (.int .i64 3) ∧ w'.cell? ⟨w1.heap.size, 1, none⟩ = some (.int .i64 0) ∧ w'.cell? ⟨w1.heap.size, 2, none⟩ = some (.string (bs D)))
        (first
          | exact hkeep
          | go_keep)
        (first
          | (go_at_call 28
             refine (hck _).mono ?_
             rintro e w5 ⟨rfl, hb5⟩
             have hb45 := hd4.trans (hb5.mono hd4.size)
             have hB5 := hB4.trans (hb45.mono hB4.size)
             have hkeep := And.intro (cell_below hb45 hkeep.1) (And.intro (cell_below hb45 hkeep.2.1) (cell_below hb45 hkeep.2.2))
             have hbk5 := (hb45.block _ (Array.getElem?_eq_some_iff.1 hbk1).1).trans hbk1
             obtain ⟨k1, k2, k3, k4⟩ := res3 (.int .i64 3) (.int .i64 0) (.string (bs D)) hB5 hbk5
             have y0 := block_cell hbk5 0
             have y1 := block_cell hbk5 1
             have y2 := block_cell hbk5 2
             have g0 := block_free hbk5 0
             have g1 := block_free hbk5 1
             have g2 := block_free hbk5 2))
      all_goals
        clear hkeep y0 y1 y2 g0 g1 g2
        go_wp2_with fail
        exact bodyPost_ret (v := .tuple #[.agg #[.int .i64 3, .int .i64 0, .string (bs D)], errV ee]) (by simp [results, Tryd.results59, go_sem, k2, k3, k4]) rfl ⟨by rw [HE.out.1, HE.out.2], k1⟩
end Go.Proofs.YtakidgndipnciaaDoor
