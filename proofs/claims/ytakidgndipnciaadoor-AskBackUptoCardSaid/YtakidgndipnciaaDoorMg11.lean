/- Parts: VpB. -/
import Derived.Test.YtakidgndipnciaaDoorMg10
/- Contract: value.Parse: a text as a value. Conditions: what the library's texts lean on (TxOk); the text is not too long. -/
namespace Go.Proofs.YtakidgndipnciaaDoor
open Go Go.RowKit


theorem text_read {l : List UInt8} (h : l.head? = some 39) : textE l = readE l ∧ (textE l = 0 → textV l = readV l) := by
  have hf : ¬ (l = falseL ∨ l = trueL) := by
    rintro (e | e)
    · rw [e] at h; exact absurd h (by decide)
    · rw [e] at h; exact absurd h (by decide)
  have he : textE l = readE l := by
    unfold textE readE
    rw [if_neg hf, if_pos h]
  refine ⟨he, fun h0 => ?_⟩
  have hq : quotB l = true := by
    cases hq : quotB l with
    | true => rfl
    | false => unfold textE at h0; rw [hq] at h0; simp at h0
  unfold textV readV
  rw [if_pos hq, if_neg (fun e => e (by rw [← he]; exact h0)), if_neg (fun e => hf (.inl e)), if_neg (fun e => hf (.inr e)), if_pos h]
theorem prefix39 (l : List UInt8) : Lib.hasPrefix l [39] = decide (l.head? = some 39) := by
  unfold Lib.hasPrefix
  cases l with
  | nil => rfl
  | cons c l =>
    show (([39] : List UInt8).isPrefixOf (c :: l)) = _
    simp only [List.isPrefixOf, Bool.and_true, List.head?_cons, Option.some.injEq]
    rw [Bool.eq_iff_iff, beq_iff_eq, decide_eq_true_eq]
    exact eq_comm
set_option maxHeartbeats 4000000 in
theorem vparse_any (s : ByteArray) (hs : Sm s) (w : World) (hT : TxOk w) :
    Calls Tryd.prog 50 #[.string s] w fun e w' => e = .returned (.tuple #[.agg #[.int .i64 (readV s.data.toList).ty, .int .i64 (readV s.data.toList).n, .string (readV s.data.toList).s], errV (readE s.data.toList)]) ∧ Below w.heap.size w w' := by
  have hb0 : Below w.heap.size w (w.alloc (.cells #[.int .i64 0, .int .i64 0, .string ⟨#[]⟩] 38)) := (Below.refl _ _).alloc (Nat.le_refl _) _
  have hbk := heap_alloc_new w (.cells #[.int .i64 0, .int .i64 0, .string ⟨#[]⟩] 38)
  have HT := Lib.hid (hT.below hb0)
  unfold Sm at hs
  have eF : (bs falseL).toList = [102, 97, 108, 115, 101] := by decide +kernel
  have eT : (bs trueL).toList = [116, 114, 117, 101] := by decide +kernel
  by_cases hf : s = bs falseL
  · have HE : Hid (readE s.data.toList = 0 ∧ readV s.data.toList = ⟨2, 0, .empty⟩) := by
      unfold Hid; rw [hf, bs_list]; exact ⟨by decide +kernel, by decide +kernel⟩
    have h1 : s.toList = [102, 97, 108, 115, 101] := by rw [hf]; exact eF
    clear hT HT hs hf eF eT
    go_enter Tryd.func50, Tryd.ntmps50
    go_wp2_with fail
    exact bodyPost_ret (v := .tuple #[.agg #[.int .i64 2, .int .i64 0, .string ⟨#[]⟩], .nilIface]) (by simp [results, Tryd.results50, go_sem]) rfl ⟨by rw [HE.out.1, HE.out.2]; rfl, ((Below.refl _ _).alloc (Nat.le_refl _) _).alloc (by simp) _⟩
  by_cases ht : s = bs trueL
  · have HE : Hid (readE s.data.toList = 0 ∧ readV s.data.toList = ⟨2, 1, .empty⟩) := by
      unfold Hid; rw [ht, bs_list]; exact ⟨by decide +kernel, by decide +kernel⟩
    have h1 : s.toList = [116, 114, 117, 101] := by rw [ht]; exact eT
    clear hT HT hs hf ht eF eT
    go_enter Tryd.func50, Tryd.ntmps50
    go_wp2_with fail
    exact bodyPost_ret (v := .tuple #[.agg #[.int .i64 2, .int .i64 1, .string ⟨#[]⟩], .nilIface]) (by simp [results, Tryd.results50, go_sem]) rfl ⟨by rw [HE.out.1, HE.out.2]; rfl, ((Below.refl _ _).alloc (Nat.le_refl _) _).alloc (by simp) _⟩
  have nF : ¬ s.toList = [102, 97, 108, 115, 101] := fun e => hf (by rw [← bytes_eq, eF]; exact e)
  have nT : ¬ s.toList = [116, 114, 117, 101] := fun e => ht (by rw [← bytes_eq, eT]; exact e)
  have bF : (s.toList == [102, 97, 108, 115, 101]) = false := beq_eq_false_iff_ne.2 nF
  have bT : (s.toList == [116, 114, 117, 101]) = false := beq_eq_false_iff_ne.2 nT
  have lF : s.data.toList ≠ falseL := fun e => hf (by rw [← e, bs_of])
  have lT : s.data.toList ≠ trueL := fun e => ht (by rw [← e, bs_of])
  have hpre := tx_hasPrefix s ⟨#[39]⟩
  have hpe : Lib.hasPrefix s.data.toList (⟨#[39]⟩ : ByteArray).data.toList = decide (s.data.toList.head? = some 39) := prefix39 _
  rw [hpe] at hpre
  by_cases hq : s.data.toList.head? = some 39
  · rw [decide_eq_true hq] at hpre
    obtain ⟨r1, r2⟩ := text_read hq
    have hx := text_any s hs
    have HR := Lib.hid (And.intro r1 r2)
    clear hT hf ht eF eT lF lT hpe hq r1 r2 nF nT
    generalize textV s.data.toList = tv at *
    generalize textE s.data.toList = te at *
    go_enter Tryd.func50, Tryd.ntmps50
    go_wp2_with fail
    generalize w.alloc (.cells #[.int .i64 0, .int .i64 0, .string ⟨#[]⟩] 38) = W0 at *
    refine (hpre _).mono ?_
    rintro e w9 ⟨rfl, hw⟩
    have hw := hw.symm
    subst hw
    go_wp2_with fail
    refine (hx _ HT.out.toTxP).mono ?_
    clear hx
    rintro e w1 ⟨rfl, hb1⟩
    have hB1 := hb0.trans (hb1.mono hb0.size)
    have hbk1 := (hb1.block _ (Array.getElem?_eq_some_iff.1 hbk).1).trans hbk
    clear hpre hbk
    obtain ⟨ty, n, u⟩ := tv
    have ha1 : Below w1.heap.size w1 (w1.alloc (.cells #[.int .i64 ty, .int .i64 n, .string u] 38)) := (Below.refl _ _).alloc (Nat.le_refl _) _
    have hB2 := hB1.trans (ha1.mono hB1.size)
    have hbk2 := (ha1.block _ (Array.getElem?_eq_some_iff.1 hbk1).1).trans hbk1
    have y0 := block_cell hbk2 0
    have y1 := block_cell hbk2 1
    have y2 := block_cell hbk2 2
    have g0 := block_free hbk2 0
    have g1 := block_free hbk2 1
    have g2 := block_free hbk2 2
    by_cases hz : te = 0
    · have HE : Hid (readE s.data.toList = 0 ∧ readV s.data.toList = ⟨ty, n, u⟩) := ⟨by rw [← HR.out.1]; exact hz, (HR.out.2 hz).symm⟩
      obtain ⟨k1, k2, k3, k4⟩ := res3 (.int .i64 ty) (.int .i64 n) (.string u) hB2 hbk2
      have hne : w.heap.size ≠ w1.heap.size := by have := (Array.getElem?_eq_some_iff.1 hbk1).1; omega
      rw [errV_zero hz]
      clear hz HR hbk1 hbk2
      go_wp2_with fail
      exact bodyPost_ret (v := .tuple #[.agg #[.int .i64 ty, .int .i64 n, .string u], .nilIface]) (by simp [results, Tryd.results50, go_sem, k2, k3, k4]) rfl ⟨by rw [HE.out.1, HE.out.2]; rfl, k1⟩
    · have HE : Hid (errV (readE s.data.toList) = .iface 46 (.int .i64 te) ∧ readV s.data.toList = ⟨0, 0, .empty⟩) := by
        have h1 := HR.out.1
        exact ⟨by rw [← h1]; exact errV_some hz, readV_bad (by rw [← h1]; exact hz)⟩
      obtain ⟨k1, k2, k3, k4⟩ := res3 (.int .i64 0) (.int .i64 0) (.string ⟨#[]⟩) hB2 hbk2
      rw [errV_some hz]
      clear hz HR hbk1 hbk2
      go_wp2_with fail
      exact bodyPost_ret (v := .tuple #[.agg #[.int .i64 0, .int .i64 0, .string ⟨#[]⟩], .iface 46 (.int .i64 te)]) (by simp [results, Tryd.results50, go_sem, k2, k3, k4]) rfl ⟨by rw [HE.out.1, HE.out.2]; rfl, k1⟩
  rw [decide_eq_false hq] at hpre
  have hx := tx_atoi s
  have hrE : Hid (readE s.data.toList = match intL9 s.data.toList with | some n => if n < -1000000 ∨ 1000000 < n then 1 else 0 | none => 2) := by
    unfold Hid readE; rw [if_neg (fun e => e.elim lF lT), if_neg hq]; rfl
  have hrV : Hid (readE s.data.toList = 0 → readV s.data.toList = match intL9 s.data.toList with | some n => ⟨1, n, .empty⟩ | none => ⟨0, 0, .empty⟩) := by
    intro h0
    unfold readV
    rw [if_neg (fun e => e h0), if_neg lF, if_neg lT, if_neg hq]; rfl
  clear hT hf ht eF eT lF lT hpe hq nF nT
  go_enter Tryd.func50, Tryd.ntmps50
  go_wp2_with fail
  generalize w.alloc (.cells #[.int .i64 0, .int .i64 0, .string ⟨#[]⟩] 38) = W0 at *
  refine (hpre _).mono ?_
  rintro e w9 ⟨rfl, hw⟩
  have hw := hw.symm
  subst hw
  go_wp2_with fail
  refine (hx _ HT.out (by omega)).mono ?_
  clear hx
  intro e w1 hat
  obtain ⟨hb1, hat⟩ := hat
  have hB1 := hb0.trans (hb1.mono hb0.size)
  have hbk1 := (hb1.block _ (Array.getElem?_eq_some_iff.1 hbk).1).trans hbk
  have HT1 := Lib.hid (HT.out.below hb1)
  clear hpre hbk HT
  rcases hat with ⟨v, hv, rfl⟩ | ⟨hv, n, tp, p, rfl⟩
  case inr =>
    have hi := int_of_bad hv
    have HE : Hid (readE s.data.toList = 2 ∧ readV s.data.toList = ⟨0, 0, .empty⟩) := by
      have h1 : readE s.data.toList = 2 := by rw [hrE.out, hi]
      exact ⟨h1, readV_bad (by rw [h1]; decide)⟩
    obtain ⟨k1, k2, k3, k4⟩ := res3 (.int .i64 0) (.int .i64 0) (.string ⟨#[]⟩) hB1 hbk1
    have y0 := block_cell hbk1 0
    have y1 := block_cell hbk1 1
    have y2 := block_cell hbk1 2
    have g0 := block_free hbk1 0
    have g1 := block_free hbk1 1
    have g2 := block_free hbk1 2
    clear hrE hrV hi hv hbk1
    go_wp2_with fail
    exact bodyPost_ret (v := .tuple #[.agg #[.int .i64 0, .int .i64 0, .string ⟨#[]⟩], .iface 46 (.int .i64 2)]) (by simp [results, Tryd.results50, go_sem, k2, k3, k4]) rfl ⟨by rw [HE.out.1, HE.out.2]; rfl, k1⟩
  have hi := int_of_atoi hv
  have hvr := atoi_range hv
  unfold I64 at hvr
  have hx := tx_itoa v hvr.1 hvr.2 w1 HT1.out.tab
  have hcut : ((⟨(Lib.itoa v).toArray⟩ : ByteArray).toList = s.toList) = (Lib.itoa v = s.data.toList) := by
    rw [bytes_eq]
    refine propext ⟨fun e => ?_, fun e => ?_⟩
    · rw [← e]
    · have := congrArg bs e
      rw [bs_of] at this; exact this
  obtain ⟨V, hV⟩ : ∃ V : ByteArray, V = ⟨(Lib.itoa v).toArray⟩ := ⟨_, rfl⟩
  rw [← hV] at hcut hx
  have HI := Lib.hid hi
  have HC := Lib.hid hcut
  clear hi hV hcut hv
  go_wp2_with fail
  refine hx.mono ?_
  clear hx
  rintro e w2 ⟨rfl, hb2⟩
  have hB2 := hB1.trans (hb2.mono hB1.size)
  have hbk2 := (hb2.block _ (Array.getElem?_eq_some_iff.1 hbk1).1).trans hbk1
  clear hbk1 HT1
  obtain ⟨k1, k2, k3, k4⟩ := res3 (.int .i64 0) (.int .i64 0) (.string ⟨#[]⟩) hB2 hbk2
  have y0 := block_cell hbk2 0
  have y1 := block_cell hbk2 1
  have y2 := block_cell hbk2 2
  have g0 := block_free hbk2 0
  have g1 := block_free hbk2 1
  have g2 := block_free hbk2 2
  by_cases hc : Lib.itoa v = s.data.toList
  case neg =>
    have hi : intL9 s.data.toList = none := by rw [HI.out, if_neg (fun e => hc e.1)]
    have HE : Hid (readE s.data.toList = 2 ∧ readV s.data.toList = ⟨0, 0, .empty⟩) := by
      have h1 : readE s.data.toList = 2 := by rw [hrE.out, hi]
      exact ⟨h1, readV_bad (by rw [h1]; decide)⟩
    have hS : (!V.toList == s.toList) = true := by
      rw [Bool.not_eq_true', beq_eq_false_iff_ne]
      intro e
      rw [HC.out] at e; exact hc e
    clear hrE hrV hi HI HC hc hbk2
    go_wp2_with fail
    exact bodyPost_ret (v := .tuple #[.agg #[.int .i64 0, .int .i64 0, .string ⟨#[]⟩], .iface 46 (.int .i64 2)]) (by simp [results, Tryd.results50, go_sem, k2, k3, k4]) rfl ⟨by rw [HE.out.1, HE.out.2]; rfl, k1⟩
  have hS : (!V.toList == s.toList) = false := by
    have e : V.toList = s.toList := by rw [HC.out]; exact hc
    rw [e]; simp
  have htr := tx_trimPrefix s ⟨#[45]⟩ w2
  have hte : Lib.trimPrefix s.data.toList (⟨#[45]⟩ : ByteArray).data.toList = Lib.trimPrefix s.data.toList [45] := rfl
  rw [hte] at htr
  have hts : (⟨(Lib.trimPrefix s.data.toList [45]).toArray⟩ : ByteArray).size = (Lib.trimPrefix s.data.toList [45]).length := bs_size _
  have HTS := Lib.hid hts
  have HHC := Lib.hid hc
  generalize (⟨(Lib.trimPrefix s.data.toList [45]).toArray⟩ : ByteArray) = tr at *
  by_cases h9 : 9 < tr.size
  · have hi : intL9 s.data.toList = none := by rw [HI.out, if_neg (fun e => by have := e.2; omega)]
    have HE : Hid (readE s.data.toList = 2 ∧ readV s.data.toList = ⟨0, 0, .empty⟩) := by
      have h1 : readE s.data.toList = 2 := by rw [hrE.out, hi]
      exact ⟨h1, readV_bad (by rw [h1]; decide)⟩
    have h9' : (9 : Int) < (tr.size : Int) := by omega
    clear hrE hrV hi HI HC hc hbk2 hts hte
    go_wp2_with fail
    refine htr.mono ?_
    clear htr
    rintro e w9 ⟨rfl, hw⟩
    have hw := hw.symm
    subst hw
    go_wp2_with fail
    exact bodyPost_ret (v := .tuple #[.agg #[.int .i64 0, .int .i64 0, .string ⟨#[]⟩], .iface 46 (.int .i64 2)]) (by simp [results, Tryd.results50, go_sem, k2, k3, k4]) rfl ⟨by rw [HE.out.1, HE.out.2]; rfl, k1⟩
  have hi : intL9 s.data.toList = some v := by rw [HI.out, if_pos ⟨hc, by omega⟩]
  have h9' : decide ((9 : Int) < (tr.size : Int)) = false := decide_eq_false (by omega)
  have HV : Hid (valE ⟨1, v, ⟨#[]⟩⟩ = readE s.data.toList ∧ (readE s.data.toList = 0 → readV s.data.toList = ⟨1, v, .empty⟩) ∧ (readE s.data.toList ≠ 0 → readV s.data.toList = ⟨0, 0, .empty⟩)) := by
    have he : ByteArray.empty.toList.isEmpty = true := (empty_iff _).2 rfl
    refine ⟨?_, fun h0 => ?_, readV_bad⟩
    · rw [hrE.out, hi]
      show valE ⟨1, v, .empty⟩ = if v < -1000000 ∨ 1000000 < v then 1 else 0
      unfold valE valLo valHi
      have h1 : ByteArray.empty.data.toList.any strC = false := rfl
      simp only [h1, he]
      simp
    · rw [hrV.out h0, hi]
  have hck := check_any ⟨1, v, ⟨#[]⟩⟩ ⟨by show I64 1; unfold I64; omega, by show I64 v; unfold I64; omega, by unfold Sm; show (0 : Nat) ≤ _; omega⟩
  generalize valE ⟨1, v, ⟨#[]⟩⟩ = ee at *
  have ha2 : Below w2.heap.size w2 (w2.alloc (.cells #[.int .i64 1, .int .i64 v, .string ⟨#[]⟩] 38)) := (Below.refl _ _).alloc (Nat.le_refl _) _
  have hB3 := hB2.trans (ha2.mono hB2.size)
  have hbk3 := (ha2.block _ (Array.getElem?_eq_some_iff.1 hbk2).1).trans hbk2
  have hq3 := heap_alloc_new w2 (.cells #[.int .i64 1, .int .i64 v, .string ⟨#[]⟩] 38)
  have hx := hck (w2.alloc (.cells #[.int .i64 1, .int .i64 v, .string ⟨#[]⟩] 38))
  have hne : w.heap.size ≠ w2.heap.size := by have := (Array.getElem?_eq_some_iff.1 hbk2).1; omega
  clear hrE hrV hi HI HC hc hbk2 hts hte hck k1 k2 k3 k4 y0 y1 y2 g0 g1 g2 h9
  go_wp2_with fail
  refine htr.mono ?_
  clear htr
  rintro e w9 ⟨rfl, hw⟩
  have hw := hw.symm
  subst hw
  go_wp2_with fail
  generalize w2.alloc (.cells #[.int .i64 1, .int .i64 v, .string ⟨#[]⟩] 38) = w3 at *
  refine hx.mono ?_
  clear hx
  rintro e w4 ⟨rfl, hb4⟩
  have hB4 := hB3.trans (hb4.mono hB3.size)
  have hbk4 := (hb4.block _ (Array.getElem?_eq_some_iff.1 hbk3).1).trans hbk3
  have hq4 := (hb4.block _ (Array.getElem?_eq_some_iff.1 hq3).1).trans hq3
  have y0 := block_cell hbk4 0
  have y1 := block_cell hbk4 1
  have y2 := block_cell hbk4 2
  have g0 := block_free hbk4 0
  have g1 := block_free hbk4 1
  have g2 := block_free hbk4 2
  have z0 := block_cell hq4 0
  have z1 := block_cell hq4 1
  have z2 := block_cell hq4 2
  by_cases hz : ee = 0
  · have HE : Hid (readE s.data.toList = 0 ∧ readV s.data.toList = ⟨1, v, .empty⟩) := by
      have h1 := HV.out.1
      rw [hz] at h1
      exact ⟨h1.symm, HV.out.2.1 h1.symm⟩
    obtain ⟨k1, k2, k3, k4⟩ := res3 (.int .i64 1) (.int .i64 v) (.string ⟨#[]⟩) hB4 hbk4
    rw [errV_zero hz]
    clear hz HV hbk3 hbk4 hq3 hq4
    go_wp2_with fail
    exact bodyPost_ret (v := .tuple #[.agg #[.int .i64 1, .int .i64 v, .string ⟨#[]⟩], .nilIface]) (by simp [results, Tryd.results50, go_sem, k2, k3, k4]) rfl ⟨by rw [HE.out.1, HE.out.2]; rfl, k1⟩
  · have HE : Hid (errV (readE s.data.toList) = .iface 46 (.int .i64 ee) ∧ readV s.data.toList = ⟨0, 0, .empty⟩) := by
      have h1 := HV.out.1
      exact ⟨by rw [← h1]; exact errV_some hz, HV.out.2.2 (by rw [← h1]; exact hz)⟩
    obtain ⟨k1, k2, k3, k4⟩ := res3 (.int .i64 0) (.int .i64 0) (.string ⟨#[]⟩) hB4 hbk4
    rw [errV_some hz]
    clear hz HV hbk3 hbk4 hq3 hq4
    go_wp2_with fail
    exact bodyPost_ret (v := .tuple #[.agg #[.int .i64 0, .int .i64 0, .string ⟨#[]⟩], .iface 46 (.int .i64 ee)]) (by simp [results, Tryd.results50, go_sem, k2, k3, k4]) rfl ⟨by rw [HE.out.1, HE.out.2]; rfl, k1⟩
end Go.Proofs.YtakidgndipnciaaDoor
