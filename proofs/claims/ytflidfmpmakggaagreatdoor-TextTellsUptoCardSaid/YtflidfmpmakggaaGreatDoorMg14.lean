/- Parts: VpT, VpB. -/
import Derived.Test.YtflidfmpmakggaaGreatDoorMg09
import Derived.Test.YtflidfmpmakggaaGreatDoorMg07
import Derived.Deep.RegionHeld3
/- Contract: value.text: what stands between quotes. Conditions: what the library's texts lean on (TxP); the text is not too long. -/
namespace Go.Proofs.YtflidfmpmakggaaGreatDoor
open Go Go.RowKit


def textE (l : List UInt8) : Int := if quotB l = true then (if 20 < (bodyL l).length then 4 else 0) else 2
def textV (l : List UInt8) : Val := if quotB l = true then ⟨3, 0, bs (bodyL l)⟩ else ⟨0, 0, .empty⟩
theorem quot_last {l : List UInt8} (h : quotB l = true) : l.getLast? = some 39 ∧ 2 ≤ l.length := by
  obtain ⟨u, rfl, _⟩ := quot_iff.1 h
  constructor
  · rw [← List.cons_append, List.getLast?_append]; rfl
  · simp
theorem text_bad {l : List UInt8} (h : quotB l ≠ true) : textE l = 2 ∧ textV l = ⟨0, 0, .empty⟩ := by
  unfold textE textV; rw [if_neg h, if_neg h]; exact ⟨rfl, rfl⟩
theorem last_of (s : ByteArray) (m : Nat) (hm : s.size = m + 1) : s.data.toList.getLast? = some (s[m]'(by omega)) := by
  have hl : s.data.toList.length = m + 1 := by rw [Array.length_toList]; exact hm
  rw [List.getLast?_eq_getElem?, hl]
  show s.data.toList[m]? = _
  rw [List.getElem?_eq_getElem (by omega)]; rfl
theorem replK_len : ∀ (k : Nat) (l : List UInt8), (Lib.replaceK [39, 39] [39] k l).length ≤ l.length + k
  | 0, l => by show l.length ≤ _; omega
  | k + 1, l => by
    by_cases h : Lib.index l [39, 39] = -1
    · have e : Lib.replaceK [39, 39] [39] (k + 1) l = l := by unfold Lib.replaceK; rw [h]; simp
      rw [e]; omega
    · have hge := Lib.index_ge l [39, 39]
      obtain ⟨i, hi⟩ : ∃ i : Nat, Lib.index l [39, 39] = i := ⟨(Lib.index l [39, 39]).toNat, by omega⟩
      have hr := Lib.index_room l [39, 39] (by omega)
      rw [Lib.replaceK_hit _ _ _ _ _ hi]
      have ih := replK_len k (l.drop (i + ([39, 39] : List UInt8).length))
      have e2 : ([39, 39] : List UInt8).length = 2 := rfl
      have e1 : ([39] : List UInt8).length = 1 := rfl
      rw [e2] at ih hr ⊢
      rw [List.length_drop] at ih
      simp only [List.length_append, List.length_take, e1]
      omega
theorem body_len (l : List UInt8) : (bodyL l).length ≤ 2 * l.length + 1 := by
  unfold bodyL
  rw [replaceAll_eq (by decide)]
  have h1 := replK_len (Lib.count ((l.drop 1).take (l.length - 2)) [39, 39]) ((l.drop 1).take (l.length - 2))
  have h2 := Lib.count_le ((l.drop 1).take (l.length - 2)) [39, 39]
  have h3 : ((l.drop 1).take (l.length - 2)).length ≤ l.length := by rw [List.length_take, List.length_drop]; omega
  rw [List.length_take, List.length_drop] at h1 h2 h3
  omega
set_option maxHeartbeats 2000000 in
theorem text_any (s : ByteArray) (hs : Sm s) (w : World) (hT : TxP w) :
    Calls Tryz.prog 209 #[.string s] w fun e w' => e = .returned (.tuple #[.agg #[.int .i64 (textV s.data.toList).ty, .int .i64 (textV s.data.toList).n, .string (textV s.data.toList).s], errV (textE s.data.toList)]) ∧ Below w.heap.size w w' := by
  have hb0 : Below w.heap.size w (w.alloc (.cells #[.int .i64 0, .int .i64 0, .string ⟨#[]⟩] 70)) := (Below.refl _ _).alloc (Nat.le_refl _) _
  have hbk := heap_alloc_new w (.cells #[.int .i64 0, .int .i64 0, .string ⟨#[]⟩] 70)
  have HT := Lib.hid (hT.below hb0)
  have hle : s.data.toList.length = s.size := by rw [Array.length_toList]; rfl
  unfold Sm at hs
  by_cases h2 : s.size < 2
  · have HE : Hid (textE s.data.toList = 2 ∧ textV s.data.toList = ⟨0, 0, .empty⟩) := text_bad fun h => by have := (quot_last h).2; omega
    have h2' : (s.size : Int) < 2 := by omega
    clear hT HT hle h2
    go_enter Tryz.func209, Tryz.ntmps209
    go_wp2_with fail
    exact bodyPost_ret (v := .tuple #[.agg #[.int .i64 0, .int .i64 0, .string ⟨#[]⟩], .iface 115 (.int .i64 2)]) (by simp [results, Tryz.results209, go_sem]) rfl ⟨by rw [HE.out.1, HE.out.2]; rfl, hb0⟩
  obtain ⟨m, hm⟩ : ∃ m, s.size = m + 1 := ⟨s.size - 1, by omega⟩
  by_cases h3 : s[m]'(by omega) = 39
  case neg =>
    have HE : Hid (textE s.data.toList = 2 ∧ textV s.data.toList = ⟨0, 0, .empty⟩) := text_bad fun h => by
      have := (quot_last h).1
      rw [last_of s m hm] at this
      exact h3 (Option.some.inj this)
    have hA : decide ((m : Int) + 1 < 2) = false := decide_eq_false (by omega)
    have hB : (((s[m]'(by omega)).toNat : Int) != 39) = true := by
      rw [bne_iff_ne]
      intro e
      exact h3 (UInt8.toNat_inj.1 (by show (s[m]'(by omega)).toNat = 39; omega))
    clear hT HT h2 h3
    go_enter Tryz.func209, Tryz.ntmps209
    go_wp2_with fail
    exact bodyPost_ret (v := .tuple #[.agg #[.int .i64 0, .int .i64 0, .string ⟨#[]⟩], .iface 115 (.int .i64 2)]) (by simp [results, Tryz.results209, go_sem]) rfl ⟨by rw [HE.out.1, HE.out.2]; rfl, hb0⟩
  have hA : decide ((m : Int) + 1 < 2) = false := decide_eq_false (by omega)
  have hB : (((s[m]'(by omega)).toNat : Int) != 39) = false := by rw [h3]; rfl
  have hex : (s.extract 1 m).data.toList = (s.data.toList.drop 1).take (s.data.toList.length - 2) := by
    rw [Lib.extract_data, hle, hm]
    have : m + 1 - 2 = m - 1 := by omega
    rw [this]
  have hxs : (s.extract 1 m).size ≤ 1048576 := by
    have : (s.extract 1 m).data.toList.length = (s.extract 1 m).size := by rw [Array.length_toList]; rfl
    rw [hex, List.length_take] at this
    omega
  have hcn : Lib.countB (s.extract 1 m) ⟨#[39, 39]⟩ ≤ 1048577 := by
    have h := Lib.count_le (s.extract 1 m).data.toList [39, 39]
    have e : (s.extract 1 m).data.toList.length = (s.extract 1 m).size := by rw [Array.length_toList]; rfl
    show Lib.count (s.extract 1 m).data.toList [39, 39] ≤ _
    omega
  have hx := tx_replace (s.extract 1 m) ⟨#[39, 39]⟩ ⟨#[39]⟩ _ HT.out (by omega) (by decide) (by have : (⟨#[39]⟩ : ByteArray).size = 1 := rfl; rw [this]; omega)
  rw [hex] at hx
  have hx : Calls Tryz.prog 150 #[.string (s.extract 1 m), .string ⟨#[39, 39]⟩, .string ⟨#[39]⟩] (w.alloc (.cells #[.int .i64 0, .int .i64 0, .string ⟨#[]⟩] 70)) fun e w' => e = .returned (.string (bs (bodyL s.data.toList))) ∧ Below (w.alloc (.cells #[.int .i64 0, .int .i64 0, .string ⟨#[]⟩] 70)).heap.size (w.alloc (.cells #[.int .i64 0, .int .i64 0, .string ⟨#[]⟩] 70)) w' := hx
  have hQ : quotB s.data.toList = (decide (s = bs (39 :: (dbl (bodyL s.data.toList) ++ [39]))) && !(bodyL s.data.toList).any strC) := by
    unfold quotB
    have e1 : decide (2 ≤ s.data.toList.length) = true := decide_eq_true (by omega)
    have e2 : (s.data.toList = 39 :: (dbl (bodyL s.data.toList) ++ [39])) ↔ s = bs (39 :: (dbl (bodyL s.data.toList) ++ [39])) :=
      ⟨fun e => by rw [← e, bs_of], fun e => by conv => lhs; rw [e, bs_list]⟩
    rw [e1, decide_eq_decide.2 e2]; rfl
  have HX := Lib.hid hex
  have HE : Hid (textE s.data.toList = (if quotB s.data.toList = true then (if 20 < (bodyL s.data.toList).length then 4 else 0) else 2) ∧ textV s.data.toList = (if quotB s.data.toList = true then ⟨3, 0, bs (bodyL s.data.toList)⟩ else ⟨0, 0, .empty⟩)) := ⟨rfl, rfl⟩
  have hbl : (bodyL s.data.toList).length ≤ 2097153 := by have := body_len s.data.toList; omega
  have hm1 : (1 : Int) ≤ (m : Int) := by omega
  generalize bodyL s.data.toList = D at *
  have HQ := Lib.hid hQ
  clear hT h2 hex hcn hQ
  go_enter Tryz.func209, Tryz.ntmps209
  go_wp2_with fail
  generalize w.alloc (.cells #[.int .i64 0, .int .i64 0, .string ⟨#[]⟩] 70) = W0 at *
  refine hx.mono ?_
  clear hx
  rintro e w1 ⟨rfl, hb1⟩
  have hB1 := hb0.trans (hb1.mono hb0.size)
  have hbk1 := (hb1.block _ (Array.getElem?_eq_some_iff.1 hbk).1).trans hbk
  have HT1 := Lib.hid (HT.out.below hb1)
  have hs1 : w.heap.size < w1.heap.size := (Array.getElem?_eq_some_iff.1 hbk1).1
  have hbk2 := heap_alloc_new w1 (.cells #[.int .i64 3, .int .i64 0, .string (bs D)] 70)
  have ha2 : Below w1.heap.size w1 (w1.alloc (.cells #[.int .i64 3, .int .i64 0, .string (bs D)] 70)) := (Below.refl _ _).alloc (Nat.le_refl _) _
  have hx := doubled_any (bs D) _ (HT1.out.below ha2) (by rw [bs_size]; omega)
  rw [bs_list] at hx
  have hdl := dbl_len2 D
  have hsz : (bs (dbl D)).size ≤ 4194306 := by rw [bs_size]; omega
  have hXE : Hid ((⟨#[39]⟩ ++ bs (dbl D) ++ ⟨#[39]⟩ : ByteArray) = bs (39 :: (dbl D ++ [39]))) := by
    unfold Hid
    show bs [39] ++ bs (dbl D) ++ bs [39] = _
    rw [bs_append, bs_append]; simp
  have hbk1 := (ha2.block _ (Array.getElem?_eq_some_iff.1 hbk1).1).trans hbk1
  clear hb1 hbk h3 HT hdl
  go_wp2_with fail
  generalize w1.alloc (.cells #[.int .i64 3, .int .i64 0, .string (bs D)] 70) = w2 at *
  generalize bs (dbl D) = DD at *
  have hc1 : ¬ 9223372036854775807 < 1 + DD.size := by omega
  have hc2 : ¬ 9223372036854775807 < 1 + DD.size + 1 := by omega
  refine hx.mono ?_
  clear hx
  rintro e w3 ⟨rfl, hb3⟩
  have hB2 := hB1.trans (ha2.mono hB1.size)
  have hB3 := hB2.trans (hb3.mono hB2.size)
  have hbk1 := (hb3.block _ (Array.getElem?_eq_some_iff.1 hbk1).1).trans hbk1
  have hbk2 := (hb3.block _ (Array.getElem?_eq_some_iff.1 hbk2).1).trans hbk2
  have HT3 := Lib.hid ((HT1.out.below ha2).below hb3)
  clear hb3 ha2 HT1 hbl
  have HE0 := Lib.hid (HE.out)
  by_cases hG : s = bs (39 :: (dbl D ++ [39]))
  case neg =>
    have hS : (!(⟨#[39]⟩ ++ DD ++ ⟨#[39]⟩ : ByteArray).toList == s.toList) = true := by
      rw [hXE.out, Bool.not_eq_true', beq_eq_false_iff_ne]
      intro e
      rw [bytes_eq] at e
      exact hG e.symm
    have HE : Hid (textE s.data.toList = 2 ∧ textV s.data.toList = ⟨0, 0, .empty⟩) := text_bad fun h => by
      rw [HQ.out, decide_eq_false hG] at h; cases h
    clear HQ HE0 hXE hG
    -- hB3: above w; hbk1: the block there
    obtain ⟨k1, k2, k3, k4⟩ := res3 (.int .i64 0) (.int .i64 0) (.string ⟨#[]⟩) hB3 hbk1
    have y0 := block_cell hbk1 0
    have y1 := block_cell hbk1 1
    have y2 := block_cell hbk1 2
    have g0 := block_free hbk1 0
    have g1 := block_free hbk1 1
    have g2 := block_free hbk1 2
    go_wp2_with fail
    exact bodyPost_ret (v := .tuple #[.agg #[.int .i64 0, .int .i64 0, .string ⟨#[]⟩], .iface 115 (.int .i64 2)]) (by simp [results, Tryz.results209, go_sem, k2, k3, k4]) rfl ⟨by rw [HE.out.1, HE.out.2]; rfl, k1⟩
  have hS : (!(⟨#[39]⟩ ++ DD ++ ⟨#[39]⟩ : ByteArray).toList == s.toList) = false := by
    rw [hXE.out, ← hG]; simp
  have hDl : D.length + 2 ≤ s.size := by
    rw [hG, bs_size]
    have := dbl_len D
    simp; omega
  have hDs : Sm (bs D) := by unfold Sm; rw [bs_size]; omega
  have HQ2 : Hid (quotB s.data.toList = !D.any strC) := by unfold Hid; rw [HQ.out, decide_eq_true hG]; rfl
  have hDe : (bs D).size = D.length := bs_size D
  have hcv := fun wx => Lib.run_convert_string_bytes (P := Tryz.prog) wx 9 108 5 (bs D) Tryz.underlying9 Tryz.underlying108 Tryz.underlying5
  obtain ⟨hsl, hb4⟩ := bytes_sl w3 (bs D) hDs
  rw [bs_list] at hsl
  have HSL := Lib.hid hsl
  have hB4 := hB3.trans (hb4.mono hB3.size)
  have hbk1 := (hb4.block _ (Array.getElem?_eq_some_iff.1 hbk1).1).trans hbk1
  have hbk2x := (hb4.block _ (Array.getElem?_eq_some_iff.1 hbk2).1).trans hbk2
  have y2 := block_cell hbk2 2
  have HDE := Lib.hid hDe
  have HBK := Lib.hid hbk2x
  clear HQ hXE hG hsl hbk2 hDe hbk2x
  go_wp2_with fail
  generalize Lib.bytesWorld w3 5 (bs D) = w4 at *
  go_loop [6, 40] (fun _ i => ∃ k : Nat, k ≤ D.length ∧ i = .int .i64 k ∧ (D.take k).any strC = false) (fun _ i => D.length - (intOf i).toNat)
  case atStart => exact ⟨0, Nat.zero_le _, rfl, rfl⟩
  case round =>
    obtain ⟨k, hk, rfl, hst⟩ := hrel
    have HST := Lib.hid hst
    clear hst
    by_cases hlt : k < D.length
    · obtain ⟨d, hd⟩ : ∃ d, D[k]? = some d := ⟨_, List.getElem?_eq_getElem hlt⟩
      obtain ⟨b, o, hbo, hcell⟩ := byte_at HSL.out hd
      injection hbo with hbo
      injection hbo with hbo1 hbo2
      subst hbo1
      subst hbo2
      rw [Nat.zero_add] at hcell
      have HD : Hid ((D.take (k + 1)).any strC = strC d) := by
        unfold Hid
        rw [List.take_add_one, hd, List.any_append, HST.out]; simp
      have hDn : ((bs D).size : Int) = (D.length : Int) := by rw [HDE.out]
      have hlt' : (k : Int) < ((bs D).size : Int) := by omega
      clear hd hk
      have hbad : strC d = true → textE s.data.toList = 2 ∧ textV s.data.toList = ⟨0, 0, .empty⟩ := fun h => text_bad fun hq => by
        rw [HQ2.out] at hq
        have h1 : D.any strC = true := by
          rw [← HD.out] at h
          obtain ⟨x, hx, hx2⟩ := List.any_eq_true.1 h
          exact List.any_eq_true.2 ⟨x, List.mem_of_mem_take hx, hx2⟩
        rw [h1] at hq; cases hq
      by_cases h1 : (d.toNat : Int) < 32
      · have HE : Hid (textE s.data.toList = 2 ∧ textV s.data.toList = ⟨0, 0, .empty⟩) := hbad (by unfold strC; simp; omega)
        clear hbad HE0 HD HST
        -- hB4: above w; hbk1: the block there
        obtain ⟨k1, k2, k3, k4⟩ := res3 (.int .i64 0) (.int .i64 0) (.string ⟨#[]⟩) hB4 hbk1
        have y0 := block_cell hbk1 0
        have y1 := block_cell hbk1 1
        have y2 := block_cell hbk1 2
        have g0 := block_free hbk1 0
        have g1 := block_free hbk1 1
        have g2 := block_free hbk1 2
        go_wp2_with fail
        exact bodyPost_ret (v := .tuple #[.agg #[.int .i64 0, .int .i64 0, .string ⟨#[]⟩], .iface 115 (.int .i64 2)]) (by simp [results, Tryz.results209, go_sem, k2, k3, k4]) rfl ⟨by rw [HE.out.1, HE.out.2]; rfl, k1⟩
      · by_cases h2 : 126 < (d.toNat : Int)
        · have HE : Hid (textE s.data.toList = 2 ∧ textV s.data.toList = ⟨0, 0, .empty⟩) := hbad (by unfold strC; simp; omega)
          clear hbad HE0 HD HST
          -- hB4: above w; hbk1: the block there
          obtain ⟨k1, k2, k3, k4⟩ := res3 (.int .i64 0) (.int .i64 0) (.string ⟨#[]⟩) hB4 hbk1
          have y0 := block_cell hbk1 0
          have y1 := block_cell hbk1 1
          have y2 := block_cell hbk1 2
          have g0 := block_free hbk1 0
          have g1 := block_free hbk1 1
          have g2 := block_free hbk1 2
          go_wp2_with fail
          exact bodyPost_ret (v := .tuple #[.agg #[.int .i64 0, .int .i64 0, .string ⟨#[]⟩], .iface 115 (.int .i64 2)]) (by simp [results, Tryz.results209, go_sem, k2, k3, k4]) rfl ⟨by rw [HE.out.1, HE.out.2]; rfl, k1⟩
        · have HN : Hid ((D.take (k + 1)).any strC = false) := by
            unfold Hid
            rw [HD.out]
            unfold strC; simp; omega
          clear hbad
          go_wp2_with fail
          go_round
          case rel => exact ⟨k + 1, by omega, by go_num, HN.out⟩
          case measure => simp [intOf]; omega
    · obtain rfl : k = D.length := by omega
      have hq : quotB s.data.toList = true := by
        have := HST.out
        rw [List.take_length] at this
        rw [HQ2.out, this]; rfl
      have HE : Hid (textE s.data.toList = valE ⟨3, 0, bs D⟩ ∧ textV s.data.toList = ⟨3, 0, bs D⟩) := by
        have h0 := HST.out
        rw [List.take_length] at h0
        unfold Hid
        rw [HE0.out.1, HE0.out.2, if_pos hq, if_pos hq]
        refine ⟨?_, rfl⟩
        unfold valE valLo valHi
        simp only [bs_size, bs_list, h0]
        simp
      have hck := check_any ⟨3, 0, bs D⟩ ⟨by show I64 3; unfold I64; omega, by show I64 0; unfold I64; omega, hDs⟩
      have hDn : decide (D.length < (bs D).size) = false := by rw [HDE.out]; simp
      generalize valE ⟨3, 0, bs D⟩ = ee at *
      have hkeep := And.intro (block_cell HBK.out 0) (And.intro (block_cell HBK.out 1) (block_cell HBK.out 2))
      have hne : w.heap.size ≠ w1.heap.size := by omega
      have hd4 : Below w4.heap.size w4 w4.drew := (Below.refl _ _).drew
      clear hq HE0 HST hlt hk
      go_wp2_with fail
      go_region_held3 (fun w' => w'.cell? ⟨w1.heap.size, 0, none⟩ = some (.int .i64 3) ∧ w'.cell? ⟨w1.heap.size, 1, none⟩ = some (.int .i64 0) ∧ w'.cell? ⟨w1.heap.size, 2, none⟩ = some (.string (bs D)))
        (first
          | exact hkeep
          | go_keep)
        (first
          | (go_at_call 149
             refine (hck _).mono ?_
             rintro e w5 ⟨rfl, hb5⟩
             have hb45 := hd4.trans (hb5.mono hd4.size)
             have hB5 := hB4.trans (hb45.mono hB4.size)
             have hkeep := And.intro (cell_below hb45 hkeep.1) (And.intro (cell_below hb45 hkeep.2.1) (cell_below hb45 hkeep.2.2))
             have hbk5 := (hb45.block _ (Array.getElem?_eq_some_iff.1 hbk1).1).trans hbk1
             obtain ⟨k1, k2, k3, k4⟩ := res3 (.int .i64 3) (.int .i64 0) (.string (bs D)) hB5 hbk5
             have y0 := block_cell hbk5 0
             have y1 := block_cell hbk5 1
             have y2 := block_cell hbk5 2
             have g0 := block_free hbk5 0
             have g1 := block_free hbk5 1
             have g2 := block_free hbk5 2))
      all_goals
        clear hkeep y0 y1 y2 g0 g1 g2
        go_wp2_with fail
        exact bodyPost_ret (v := .tuple #[.agg #[.int .i64 3, .int .i64 0, .string (bs D)], errV ee]) (by simp [results, Tryz.results209, go_sem, k2, k3, k4]) rfl ⟨by rw [HE.out.1, HE.out.2], k1⟩


theorem text_read {l : List UInt8} (h : l.head? = some 39) : textE l = readE l ∧ (textE l = 0 → textV l = readV l) := by
  have hf : ¬ (l = falseL ∨ l = trueL) := by
    rintro (e | e)
    · rw [e] at h; exact absurd h (by decide)
    · rw [e] at h; exact absurd h (by decide)
  have he : textE l = readE l := by
    unfold textE readE
    rw [if_neg hf, if_pos h]
  refine ⟨he, fun h0 => ?_⟩
  have hq : quotB l = true := by
    cases hq : quotB l with
    | true => rfl
    | false => unfold textE at h0; rw [hq] at h0; simp at h0
  unfold textV readV
  rw [if_pos hq, if_neg (fun e => e (by rw [← he]; exact h0)), if_neg (fun e => hf (.inl e)), if_neg (fun e => hf (.inr e)), if_pos h]
theorem prefix39 (l : List UInt8) : Lib.hasPrefix l [39] = decide (l.head? = some 39) := by
  unfold Lib.hasPrefix
  cases l with
  | nil => rfl
  | cons c l =>
    show (([39] : List UInt8).isPrefixOf (c :: l)) = _
    simp only [List.isPrefixOf, Bool.and_true, List.head?_cons, Option.some.injEq]
    rw [Bool.eq_iff_iff, beq_iff_eq, decide_eq_true_eq]
    exact eq_comm
set_option maxHeartbeats 4000000 in
theorem vparse_any (s : ByteArray) (hs : Sm s) (w : World) (hT : TxOk w) :
    Calls Tryz.prog 162 #[.string s] w fun e w' => e = .returned (.tuple #[.agg #[.int .i64 (readV s.data.toList).ty, .int .i64 (readV s.data.toList).n, .string (readV s.data.toList).s], errV (readE s.data.toList)]) ∧ Below w.heap.size w w' := by
  have hb0 : Below w.heap.size w (w.alloc (.cells #[.int .i64 0, .int .i64 0, .string ⟨#[]⟩] 70)) := (Below.refl _ _).alloc (Nat.le_refl _) _
  have hbk := heap_alloc_new w (.cells #[.int .i64 0, .int .i64 0, .string ⟨#[]⟩] 70)
  have HT := Lib.hid (hT.below hb0)
  unfold Sm at hs
  have eF : (bs falseL).toList = [102, 97, 108, 115, 101] := by decide +kernel
  have eT : (bs trueL).toList = [116, 114, 117, 101] := by decide +kernel
  by_cases hf : s = bs falseL
  · have HE : Hid (readE s.data.toList = 0 ∧ readV s.data.toList = ⟨2, 0, .empty⟩) := by
      unfold Hid; rw [hf, bs_list]; exact ⟨by decide +kernel, by decide +kernel⟩
    have h1 : s.toList = [102, 97, 108, 115, 101] := by rw [hf]; exact eF
    clear hT HT hs hf eF eT
    go_enter Tryz.func162, Tryz.ntmps162
    go_wp2_with fail
    exact bodyPost_ret (v := .tuple #[.agg #[.int .i64 2, .int .i64 0, .string ⟨#[]⟩], .nilIface]) (by simp [results, Tryz.results162, go_sem]) rfl ⟨by rw [HE.out.1, HE.out.2]; rfl, ((Below.refl _ _).alloc (Nat.le_refl _) _).alloc (by simp) _⟩
  by_cases ht : s = bs trueL
  · have HE : Hid (readE s.data.toList = 0 ∧ readV s.data.toList = ⟨2, 1, .empty⟩) := by
      unfold Hid; rw [ht, bs_list]; exact ⟨by decide +kernel, by decide +kernel⟩
    have h1 : s.toList = [116, 114, 117, 101] := by rw [ht]; exact eT
    clear hT HT hs hf ht eF eT
    go_enter Tryz.func162, Tryz.ntmps162
    go_wp2_with fail
    exact bodyPost_ret (v := .tuple #[.agg #[.int .i64 2, .int .i64 1, .string ⟨#[]⟩], .nilIface]) (by simp [results, Tryz.results162, go_sem]) rfl ⟨by rw [HE.out.1, HE.out.2]; rfl, ((Below.refl _ _).alloc (Nat.le_refl _) _).alloc (by simp) _⟩
  have nF : ¬ s.toList = [102, 97, 108, 115, 101] := fun e => hf (by rw [← bytes_eq, eF]; exact e)
  have nT : ¬ s.toList = [116, 114, 117, 101] := fun e => ht (by rw [← bytes_eq, eT]; exact e)
  have bF : (s.toList == [102, 97, 108, 115, 101]) = false := beq_eq_false_iff_ne.2 nF
  have bT : (s.toList == [116, 114, 117, 101]) = false := beq_eq_false_iff_ne.2 nT
  have lF : s.data.toList ≠ falseL := fun e => hf (by rw [← e, bs_of])
  have lT : s.data.toList ≠ trueL := fun e => ht (by rw [← e, bs_of])
  have hpre := tx_hasPrefix s ⟨#[39]⟩
  have hpe : Lib.hasPrefix s.data.toList (⟨#[39]⟩ : ByteArray).data.toList = decide (s.data.toList.head? = some 39) := prefix39 _
  rw [hpe] at hpre
  by_cases hq : s.data.toList.head? = some 39
  · rw [decide_eq_true hq] at hpre
    obtain ⟨r1, r2⟩ := text_read hq
    have hx := text_any s hs
    have HR := Lib.hid (And.intro r1 r2)
    clear hT hf ht eF eT lF lT hpe hq r1 r2 nF nT
    generalize textV s.data.toList = tv at *
    generalize textE s.data.toList = te at *
    go_enter Tryz.func162, Tryz.ntmps162
    go_wp2_with fail
    generalize w.alloc (.cells #[.int .i64 0, .int .i64 0, .string ⟨#[]⟩] 70) = W0 at *
    refine (hpre _).mono ?_
    rintro e w9 ⟨rfl, hw⟩
    have hw := hw.symm
    subst hw
    go_wp2_with fail
    refine (hx _ HT.out.toTxP).mono ?_
    clear hx
    rintro e w1 ⟨rfl, hb1⟩
    have hB1 := hb0.trans (hb1.mono hb0.size)
    have hbk1 := (hb1.block _ (Array.getElem?_eq_some_iff.1 hbk).1).trans hbk
    clear hpre hbk
    obtain ⟨ty, n, u⟩ := tv
    have ha1 : Below w1.heap.size w1 (w1.alloc (.cells #[.int .i64 ty, .int .i64 n, .string u] 70)) := (Below.refl _ _).alloc (Nat.le_refl _) _
    have hB2 := hB1.trans (ha1.mono hB1.size)
    have hbk2 := (ha1.block _ (Array.getElem?_eq_some_iff.1 hbk1).1).trans hbk1
    have y0 := block_cell hbk2 0
    have y1 := block_cell hbk2 1
    have y2 := block_cell hbk2 2
    have g0 := block_free hbk2 0
    have g1 := block_free hbk2 1
    have g2 := block_free hbk2 2
    by_cases hz : te = 0
    · have HE : Hid (readE s.data.toList = 0 ∧ readV s.data.toList = ⟨ty, n, u⟩) := ⟨by rw [← HR.out.1]; exact hz, (HR.out.2 hz).symm⟩
      obtain ⟨k1, k2, k3, k4⟩ := res3 (.int .i64 ty) (.int .i64 n) (.string u) hB2 hbk2
      have hne : w.heap.size ≠ w1.heap.size := by have := (Array.getElem?_eq_some_iff.1 hbk1).1; omega
      rw [errV_zero hz]
      clear hz HR hbk1 hbk2
      go_wp2_with fail
      exact bodyPost_ret (v := .tuple #[.agg #[.int .i64 ty, .int .i64 n, .string u], .nilIface]) (by simp [results, Tryz.results162, go_sem, k2, k3, k4]) rfl ⟨by rw [HE.out.1, HE.out.2]; rfl, k1⟩
    · have HE : Hid (errV (readE s.data.toList) = .iface 115 (.int .i64 te) ∧ readV s.data.toList = ⟨0, 0, .empty⟩) := by
        have h1 := HR.out.1
        exact ⟨by rw [← h1]; exact errV_some hz, readV_bad (by rw [← h1]; exact hz)⟩
      obtain ⟨k1, k2, k3, k4⟩ := res3 (.int .i64 0) (.int .i64 0) (.string ⟨#[]⟩) hB2 hbk2
      rw [errV_some hz]
      clear hz HR hbk1 hbk2
      go_wp2_with fail
      exact bodyPost_ret (v := .tuple #[.agg #[.int .i64 0, .int .i64 0, .string ⟨#[]⟩], .iface 115 (.int .i64 te)]) (by simp [results, Tryz.results162, go_sem, k2, k3, k4]) rfl ⟨by rw [HE.out.1, HE.out.2]; rfl, k1⟩
  rw [decide_eq_false hq] at hpre
  have hx := tx_atoi s
  have hrE : Hid (readE s.data.toList = match intL9 s.data.toList with | some n => if n < -1000000 ∨ 1000000 < n then 1 else 0 | none => 2) := by
    unfold Hid readE; rw [if_neg (fun e => e.elim lF lT), if_neg hq]; rfl
  have hrV : Hid (readE s.data.toList = 0 → readV s.data.toList = match intL9 s.data.toList with | some n => ⟨1, n, .empty⟩ | none => ⟨0, 0, .empty⟩) := by
    intro h0
    unfold readV
    rw [if_neg (fun e => e h0), if_neg lF, if_neg lT, if_neg hq]; rfl
  clear hT hf ht eF eT lF lT hpe hq nF nT
  go_enter Tryz.func162, Tryz.ntmps162
  go_wp2_with fail
  generalize w.alloc (.cells #[.int .i64 0, .int .i64 0, .string ⟨#[]⟩] 70) = W0 at *
  refine (hpre _).mono ?_
  rintro e w9 ⟨rfl, hw⟩
  have hw := hw.symm
  subst hw
  go_wp2_with fail
  refine (hx _ HT.out (by omega)).mono ?_
  clear hx
  intro e w1 hat
  obtain ⟨hb1, hat⟩ := hat
  have hB1 := hb0.trans (hb1.mono hb0.size)
  have hbk1 := (hb1.block _ (Array.getElem?_eq_some_iff.1 hbk).1).trans hbk
  have HT1 := Lib.hid (HT.out.below hb1)
  clear hpre hbk HT
  rcases hat with ⟨v, hv, rfl⟩ | ⟨hv, n, tp, p, rfl⟩
  case inr =>
    have hi := int_of_bad hv
    have HE : Hid (readE s.data.toList = 2 ∧ readV s.data.toList = ⟨0, 0, .empty⟩) := by
      have h1 : readE s.data.toList = 2 := by rw [hrE.out, hi]
      exact ⟨h1, readV_bad (by rw [h1]; decide)⟩
    obtain ⟨k1, k2, k3, k4⟩ := res3 (.int .i64 0) (.int .i64 0) (.string ⟨#[]⟩) hB1 hbk1
    have y0 := block_cell hbk1 0
    have y1 := block_cell hbk1 1
    have y2 := block_cell hbk1 2
    have g0 := block_free hbk1 0
    have g1 := block_free hbk1 1
    have g2 := block_free hbk1 2
    clear hrE hrV hi hv hbk1
    go_wp2_with fail
    exact bodyPost_ret (v := .tuple #[.agg #[.int .i64 0, .int .i64 0, .string ⟨#[]⟩], .iface 115 (.int .i64 2)]) (by simp [results, Tryz.results162, go_sem, k2, k3, k4]) rfl ⟨by rw [HE.out.1, HE.out.2]; rfl, k1⟩
  have hi := int_of_atoi hv
  have hvr := atoi_range hv
  unfold I64 at hvr
  have hx := tx_itoa v hvr.1 hvr.2 w1 HT1.out.tab
  have hcut : ((⟨(Lib.itoa v).toArray⟩ : ByteArray).toList = s.toList) = (Lib.itoa v = s.data.toList) := by
    rw [bytes_eq]
    refine propext ⟨fun e => ?_, fun e => ?_⟩
    · rw [← e]
    · have := congrArg bs e
      rw [bs_of] at this; exact this
  obtain ⟨V, hV⟩ : ∃ V : ByteArray, V = ⟨(Lib.itoa v).toArray⟩ := ⟨_, rfl⟩
  rw [← hV] at hcut hx
  have HI := Lib.hid hi
  have HC := Lib.hid hcut
  clear hi hV hcut hv
  go_wp2_with fail
  refine hx.mono ?_
  clear hx
  rintro e w2 ⟨rfl, hb2⟩
  have hB2 := hB1.trans (hb2.mono hB1.size)
  have hbk2 := (hb2.block _ (Array.getElem?_eq_some_iff.1 hbk1).1).trans hbk1
  clear hbk1 HT1
  obtain ⟨k1, k2, k3, k4⟩ := res3 (.int .i64 0) (.int .i64 0) (.string ⟨#[]⟩) hB2 hbk2
  have y0 := block_cell hbk2 0
  have y1 := block_cell hbk2 1
  have y2 := block_cell hbk2 2
  have g0 := block_free hbk2 0
  have g1 := block_free hbk2 1
  have g2 := block_free hbk2 2
  by_cases hc : Lib.itoa v = s.data.toList
  case neg =>
    have hi : intL9 s.data.toList = none := by rw [HI.out, if_neg (fun e => hc e.1)]
    have HE : Hid (readE s.data.toList = 2 ∧ readV s.data.toList = ⟨0, 0, .empty⟩) := by
      have h1 : readE s.data.toList = 2 := by rw [hrE.out, hi]
      exact ⟨h1, readV_bad (by rw [h1]; decide)⟩
    have hS : (!V.toList == s.toList) = true := by
      rw [Bool.not_eq_true', beq_eq_false_iff_ne]
      intro e
      rw [HC.out] at e; exact hc e
    clear hrE hrV hi HI HC hc hbk2
    go_wp2_with fail
    exact bodyPost_ret (v := .tuple #[.agg #[.int .i64 0, .int .i64 0, .string ⟨#[]⟩], .iface 115 (.int .i64 2)]) (by simp [results, Tryz.results162, go_sem, k2, k3, k4]) rfl ⟨by rw [HE.out.1, HE.out.2]; rfl, k1⟩
  have hS : (!V.toList == s.toList) = false := by
    have e : V.toList = s.toList := by rw [HC.out]; exact hc
    rw [e]; simp
  have htr := tx_trimPrefix s ⟨#[45]⟩ w2
  have hte : Lib.trimPrefix s.data.toList (⟨#[45]⟩ : ByteArray).data.toList = Lib.trimPrefix s.data.toList [45] := rfl
  rw [hte] at htr
  have hts : (⟨(Lib.trimPrefix s.data.toList [45]).toArray⟩ : ByteArray).size = (Lib.trimPrefix s.data.toList [45]).length := bs_size _
  have HTS := Lib.hid hts
  have HHC := Lib.hid hc
  generalize (⟨(Lib.trimPrefix s.data.toList [45]).toArray⟩ : ByteArray) = tr at *
  by_cases h9 : 9 < tr.size
  · have hi : intL9 s.data.toList = none := by rw [HI.out, if_neg (fun e => by have := e.2; omega)]
    have HE : Hid (readE s.data.toList = 2 ∧ readV s.data.toList = ⟨0, 0, .empty⟩) := by
      have h1 : readE s.data.toList = 2 := by rw [hrE.out, hi]
      exact ⟨h1, readV_bad (by rw [h1]; decide)⟩
    have h9' : (9 : Int) < (tr.size : Int) := by omega
    clear hrE hrV hi HI HC hc hbk2 hts hte
    go_wp2_with fail
    refine htr.mono ?_
    clear htr
    rintro e w9 ⟨rfl, hw⟩
    have hw := hw.symm
    subst hw
    go_wp2_with fail
    exact bodyPost_ret (v := .tuple #[.agg #[.int .i64 0, .int .i64 0, .string ⟨#[]⟩], .iface 115 (.int .i64 2)]) (by simp [results, Tryz.results162, go_sem, k2, k3, k4]) rfl ⟨by rw [HE.out.1, HE.out.2]; rfl, k1⟩
  have hi : intL9 s.data.toList = some v := by rw [HI.out, if_pos ⟨hc, by omega⟩]
  have h9' : decide ((9 : Int) < (tr.size : Int)) = false := decide_eq_false (by omega)
  have HV : Hid (valE ⟨1, v, ⟨#[]⟩⟩ = readE s.data.toList ∧ (readE s.data.toList = 0 → readV s.data.toList = ⟨1, v, .empty⟩) ∧ (readE s.data.toList ≠ 0 → readV s.data.toList = ⟨0, 0, .empty⟩)) := by
    have he : ByteArray.empty.toList.isEmpty = true := (empty_iff _).2 rfl
    refine ⟨?_, fun h0 => ?_, readV_bad⟩
    · rw [hrE.out, hi]
      show valE ⟨1, v, .empty⟩ = if v < -1000000 ∨ 1000000 < v then 1 else 0
      unfold valE valLo valHi
      have h1 : ByteArray.empty.data.toList.any strC = false := rfl
      simp only [h1, he]
      simp
    · rw [hrV.out h0, hi]
  have hck := check_any ⟨1, v, ⟨#[]⟩⟩ ⟨by show I64 1; unfold I64; omega, by show I64 v; unfold I64; omega, by unfold Sm; show (0 : Nat) ≤ _; omega⟩
  generalize valE ⟨1, v, ⟨#[]⟩⟩ = ee at *
  have ha2 : Below w2.heap.size w2 (w2.alloc (.cells #[.int .i64 1, .int .i64 v, .string ⟨#[]⟩] 70)) := (Below.refl _ _).alloc (Nat.le_refl _) _
  have hB3 := hB2.trans (ha2.mono hB2.size)
  have hbk3 := (ha2.block _ (Array.getElem?_eq_some_iff.1 hbk2).1).trans hbk2
  have hq3 := heap_alloc_new w2 (.cells #[.int .i64 1, .int .i64 v, .string ⟨#[]⟩] 70)
  have hx := hck (w2.alloc (.cells #[.int .i64 1, .int .i64 v, .string ⟨#[]⟩] 70))
  have hne : w.heap.size ≠ w2.heap.size := by have := (Array.getElem?_eq_some_iff.1 hbk2).1; omega
  clear hrE hrV hi HI HC hc hbk2 hts hte hck k1 k2 k3 k4 y0 y1 y2 g0 g1 g2 h9
  go_wp2_with fail
  refine htr.mono ?_
  clear htr
  rintro e w9 ⟨rfl, hw⟩
  have hw := hw.symm
  subst hw
  go_wp2_with fail
  generalize w2.alloc (.cells #[.int .i64 1, .int .i64 v, .string ⟨#[]⟩] 70) = w3 at *
  refine hx.mono ?_
  clear hx
  rintro e w4 ⟨rfl, hb4⟩
  have hB4 := hB3.trans (hb4.mono hB3.size)
  have hbk4 := (hb4.block _ (Array.getElem?_eq_some_iff.1 hbk3).1).trans hbk3
  have hq4 := (hb4.block _ (Array.getElem?_eq_some_iff.1 hq3).1).trans hq3
  have y0 := block_cell hbk4 0
  have y1 := block_cell hbk4 1
  have y2 := block_cell hbk4 2
  have g0 := block_free hbk4 0
  have g1 := block_free hbk4 1
  have g2 := block_free hbk4 2
  have z0 := block_cell hq4 0
  have z1 := block_cell hq4 1
  have z2 := block_cell hq4 2
  by_cases hz : ee = 0
  · have HE : Hid (readE s.data.toList = 0 ∧ readV s.data.toList = ⟨1, v, .empty⟩) := by
      have h1 := HV.out.1
      rw [hz] at h1
      exact ⟨h1.symm, HV.out.2.1 h1.symm⟩
    obtain ⟨k1, k2, k3, k4⟩ := res3 (.int .i64 1) (.int .i64 v) (.string ⟨#[]⟩) hB4 hbk4
    rw [errV_zero hz]
    clear hz HV hbk3 hbk4 hq3 hq4
    go_wp2_with fail
    exact bodyPost_ret (v := .tuple #[.agg #[.int .i64 1, .int .i64 v, .string ⟨#[]⟩], .nilIface]) (by simp [results, Tryz.results162, go_sem, k2, k3, k4]) rfl ⟨by rw [HE.out.1, HE.out.2]; rfl, k1⟩
  · have HE : Hid (errV (readE s.data.toList) = .iface 115 (.int .i64 ee) ∧ readV s.data.toList = ⟨0, 0, .empty⟩) := by
      have h1 := HV.out.1
      exact ⟨by rw [← h1]; exact errV_some hz, HV.out.2.2 (by rw [← h1]; exact hz)⟩
    obtain ⟨k1, k2, k3, k4⟩ := res3 (.int .i64 0) (.int .i64 0) (.string ⟨#[]⟩) hB4 hbk4
    rw [errV_some hz]
    clear hz HV hbk3 hbk4 hq3 hq4
    go_wp2_with fail
    exact bodyPost_ret (v := .tuple #[.agg #[.int .i64 0, .int .i64 0, .string ⟨#[]⟩], .iface 115 (.int .i64 ee)]) (by simp [results, Tryz.results162, go_sem, k2, k3, k4]) rfl ⟨by rw [HE.out.1, HE.out.2]; rfl, k1⟩
end Go.Proofs.YtflidfmpmakggaaGreatDoor
