/- Parts: VpB, RecT, RcB. -/
import Derived.Test.YtmbeeaohidgfgaaGreatDoorMg15
import Derived.Test.YtmbeeaohidgfgaaGreatDoorMg10
import Derived.Test.YtmbeeaohidgfgaaGreatDoorMg14
import Derived.Test.YtmbeeaohidgfgaaGreatDoorMg13
import Derived.Test.YtmbeeaohidgfgaaGreatDoorMg11
import Derived.Test.YtmbeeaohidgfgaaGreatDoorMg08
/- Contract: value.Parse: a text as a value. Conditions: what the library's texts lean on (TxOk); the text is not too long. -/
namespace Go.Proofs.YtmbeeaohidgfgaaGreatDoor
open Go Go.RowKit


theorem text_read {l : List UInt8} (h : l.head? = some 39) : textE l = readE l ∧ (textE l = 0 → textV l = readV l) := by
  have hf : ¬ (l = falseL ∨ l = trueL) := by
    rintro (e | e)
    · rw [e] at h; exact absurd h (by decide)
    · rw [e] at h; exact absurd h (by decide)
  have he : textE l = readE l := by
    unfold textE readE
    rw [if_neg hf, if_pos h]
  refine ⟨he, fun h0 => ?_⟩
  have hq : quotB l = true := by
    cases hq : quotB l with
    | true => rfl
    | false => unfold textE at h0; rw [hq] at h0; simp at h0
  unfold textV readV
  rw [if_pos hq, if_neg (fun e => e (by rw [← he]; exact h0)), if_neg (fun e => hf (.inl e)), if_neg (fun e => hf (.inr e)), if_pos h]
theorem prefix39 (l : List UInt8) : Lib.hasPrefix l [39] = decide (l.head? = some 39) := by
  unfold Lib.hasPrefix
  cases l with
  | nil => rfl
  | cons c l =>
    show (([39] : List UInt8).isPrefixOf (c :: l)) = _
    simp only [List.isPrefixOf, Bool.and_true, List.head?_cons, Option.some.injEq]
    rw [Bool.eq_iff_iff, beq_iff_eq, decide_eq_true_eq]
    exact eq_comm
set_option maxHeartbeats 4000000 in
theorem vparse_any (s : ByteArray) (hs : Sm s) (w : World) (hT : TxOk w) :
    Calls Tryz.prog 28 #[.string s] w fun e w' => e = .returned (.tuple #[.agg #[.int .i64 (readV s.data.toList).ty, .int .i64 (readV s.data.toList).n, .string (readV s.data.toList).s], errV (readE s.data.toList)]) ∧ Below w.heap.size w w' := by
  have hb0 : Below w.heap.size w (w.alloc (.cells #[.int .i64 0, .int .i64 0, .string ⟨#[]⟩] 25)) := (Below.refl _ _).alloc (Nat.le_refl _) _
  have hbk := heap_alloc_new w (.cells #[.int .i64 0, .int .i64 0, .string ⟨#[]⟩] 25)
  have HT := Lib.hid (hT.below hb0)
  unfold Sm at hs
  have eF : (bs falseL).toList = [102, 97, 108, 115, 101] := by decide +kernel
  have eT : (bs trueL).toList = [116, 114, 117, 101] := by decide +kernel
  by_cases hf : s = bs falseL
  · have HE : Hid (readE s.data.toList = 0 ∧ readV s.data.toList = ⟨2, 0, .empty⟩) := by
      unfold Hid; rw [hf, bs_list]; exact ⟨by decide +kernel, by decide +kernel⟩
    have h1 : s.toList = [102, 97, 108, 115, 101] := by rw [hf]; exact eF
    clear hT HT hs hf eF eT
    go_enter Tryz.func28, Tryz.ntmps28
    go_wp2_with fail
    exact bodyPost_ret (v := .tuple #[.agg #[.int .i64 2, .int .i64 0, .string ⟨#[]⟩], .nilIface]) (by simp [results, Tryz.results28, go_sem]) rfl ⟨by rw [HE.out.1, HE.out.2]; rfl, ((Below.refl _ _).alloc (Nat.le_refl _) _).alloc (by simp) _⟩
  by_cases ht : s = bs trueL
  · have HE : Hid (readE s.data.toList = 0 ∧ readV s.data.toList = ⟨2, 1, .empty⟩) := by
      unfold Hid; rw [ht, bs_list]; exact ⟨by decide +kernel, by decide +kernel⟩
    have h1 : s.toList = [116, 114, 117, 101] := by rw [ht]; exact eT
    clear hT HT hs hf ht eF eT
    go_enter Tryz.func28, Tryz.ntmps28
    go_wp2_with fail
    exact bodyPost_ret (v := .tuple #[.agg #[.int .i64 2, .int .i64 1, .string ⟨#[]⟩], .nilIface]) (by simp [results, Tryz.results28, go_sem]) rfl ⟨by rw [HE.out.1, HE.out.2]; rfl, ((Below.refl _ _).alloc (Nat.le_refl _) _).alloc (by simp) _⟩
  have nF : ¬ s.toList = [102, 97, 108, 115, 101] := fun e => hf (by rw [← bytes_eq, eF]; exact e)
  have nT : ¬ s.toList = [116, 114, 117, 101] := fun e => ht (by rw [← bytes_eq, eT]; exact e)
  have bF : (s.toList == [102, 97, 108, 115, 101]) = false := beq_eq_false_iff_ne.2 nF
  have bT : (s.toList == [116, 114, 117, 101]) = false := beq_eq_false_iff_ne.2 nT
  have lF : s.data.toList ≠ falseL := fun e => hf (by rw [← e, bs_of])
  have lT : s.data.toList ≠ trueL := fun e => ht (by rw [← e, bs_of])
  have hpre := tx_hasPrefix s ⟨#[39]⟩
  have hpe : Lib.hasPrefix s.data.toList (⟨#[39]⟩ : ByteArray).data.toList = decide (s.data.toList.head? = some 39) := prefix39 _
  rw [hpe] at hpre
  by_cases hq : s.data.toList.head? = some 39
  · rw [decide_eq_true hq] at hpre
    obtain ⟨r1, r2⟩ := text_read hq
    have hx := text_any s hs
    have HR := Lib.hid (And.intro r1 r2)
    clear hT hf ht eF eT lF lT hpe hq r1 r2 nF nT
    generalize textV s.data.toList = tv at *
    generalize textE s.data.toList = te at *
    go_enter Tryz.func28, Tryz.ntmps28
    go_wp2_with fail
    generalize w.alloc (.cells #[.int .i64 0, .int .i64 0, .string ⟨#[]⟩] 25) = W0 at *
    refine (hpre _).mono ?_
    rintro e w9 ⟨rfl, hw⟩
    have hw := hw.symm
    subst hw
    go_wp2_with fail
    refine (hx _ HT.out.toTxP).mono ?_
    clear hx
    rintro e w1 ⟨rfl, hb1⟩
    have hB1 := hb0.trans (hb1.mono hb0.size)
    have hbk1 := (hb1.block _ (Array.getElem?_eq_some_iff.1 hbk).1).trans hbk
    clear hpre hbk
    obtain ⟨ty, n, u⟩ := tv
    have ha1 : Below w1.heap.size w1 (w1.alloc (.cells #[.int .i64 ty, .int .i64 n, .string u] 25)) := (Below.refl _ _).alloc (Nat.le_refl _) _
    have hB2 := hB1.trans (ha1.mono hB1.size)
    have hbk2 := (ha1.block _ (Array.getElem?_eq_some_iff.1 hbk1).1).trans hbk1
    have y0 := block_cell hbk2 0
    have y1 := block_cell hbk2 1
    have y2 := block_cell hbk2 2
    have g0 := block_free hbk2 0
    have g1 := block_free hbk2 1
    have g2 := block_free hbk2 2
    by_cases hz : te = 0
    · have HE : Hid (readE s.data.toList = 0 ∧ readV s.data.toList = ⟨ty, n, u⟩) := ⟨by rw [← HR.out.1]; exact hz, (HR.out.2 hz).symm⟩
      obtain ⟨k1, k2, k3, k4⟩ := res3 (.int .i64 ty) (.int .i64 n) (.string u) hB2 hbk2
      have hne : w.heap.size ≠ w1.heap.size := by have := (Array.getElem?_eq_some_iff.1 hbk1).1; omega
      rw [errV_zero hz]
      clear hz HR hbk1 hbk2
      go_wp2_with fail
      exact bodyPost_ret (v := .tuple #[.agg #[.int .i64 ty, .int .i64 n, .string u], .nilIface]) (by simp [results, Tryz.results28, go_sem, k2, k3, k4]) rfl ⟨by rw [HE.out.1, HE.out.2]; rfl, k1⟩
    · have HE : Hid (errV (readE s.data.toList) = .iface 74 (.int .i64 te) ∧ readV s.data.toList = ⟨0, 0, .empty⟩) := by
        have h1 := HR.out.1
        exact ⟨by rw [← h1]; exact errV_some hz, readV_bad (by rw [← h1]; exact hz)⟩
      obtain ⟨k1, k2, k3, k4⟩ := res3 (.int .i64 0) (.int .i64 0) (.string ⟨#[]⟩) hB2 hbk2
      rw [errV_some hz]
      clear hz HR hbk1 hbk2
      go_wp2_with fail
      exact bodyPost_ret (v := .tuple #[.agg #[.int .i64 0, .int .i64 0, .string ⟨#[]⟩], .iface 74 (.int .i64 te)]) (by simp [results, Tryz.results28, go_sem, k2, k3, k4]) rfl ⟨by rw [HE.out.1, HE.out.2]; rfl, k1⟩
  rw [decide_eq_false hq] at hpre
  have hx := tx_atoi s
  have hrE : Hid (readE s.data.toList = match intL9 s.data.toList with | some n => if n < -1000000 ∨ 1000000 < n then 1 else 0 | none => 2) := by
    unfold Hid readE; rw [if_neg (fun e => e.elim lF lT), if_neg hq]; rfl
  have hrV : Hid (readE s.data.toList = 0 → readV s.data.toList = match intL9 s.data.toList with | some n => ⟨1, n, .empty⟩ | none => ⟨0, 0, .empty⟩) := by
    intro h0
    unfold readV
    rw [if_neg (fun e => e h0), if_neg lF, if_neg lT, if_neg hq]; rfl
  clear hT hf ht eF eT lF lT hpe hq nF nT
  go_enter Tryz.func28, Tryz.ntmps28
  go_wp2_with fail
  generalize w.alloc (.cells #[.int .i64 0, .int .i64 0, .string ⟨#[]⟩] 25) = W0 at *
  refine (hpre _).mono ?_
  rintro e w9 ⟨rfl, hw⟩
  have hw := hw.symm
  subst hw
  go_wp2_with fail
  refine (hx _ HT.out (by omega)).mono ?_
  clear hx
  intro e w1 hat
  obtain ⟨hb1, hat⟩ := hat
  have hB1 := hb0.trans (hb1.mono hb0.size)
  have hbk1 := (hb1.block _ (Array.getElem?_eq_some_iff.1 hbk).1).trans hbk
  have HT1 := Lib.hid (HT.out.below hb1)
  clear hpre hbk HT
  rcases hat with ⟨v, hv, rfl⟩ | ⟨hv, n, tp, p, rfl⟩
  case inr =>
    have hi := int_of_bad hv
    have HE : Hid (readE s.data.toList = 2 ∧ readV s.data.toList = ⟨0, 0, .empty⟩) := by
      have h1 : readE s.data.toList = 2 := by rw [hrE.out, hi]
      exact ⟨h1, readV_bad (by rw [h1]; decide)⟩
    obtain ⟨k1, k2, k3, k4⟩ := res3 (.int .i64 0) (.int .i64 0) (.string ⟨#[]⟩) hB1 hbk1
    have y0 := block_cell hbk1 0
    have y1 := block_cell hbk1 1
    have y2 := block_cell hbk1 2
    have g0 := block_free hbk1 0
    have g1 := block_free hbk1 1
    have g2 := block_free hbk1 2
    clear hrE hrV hi hv hbk1
    go_wp2_with fail
    exact bodyPost_ret (v := .tuple #[.agg #[.int .i64 0, .int .i64 0, .string ⟨#[]⟩], .iface 74 (.int .i64 2)]) (by simp [results, Tryz.results28, go_sem, k2, k3, k4]) rfl ⟨by rw [HE.out.1, HE.out.2]; rfl, k1⟩
  have hi := int_of_atoi hv
  have hvr := atoi_range hv
  unfold I64 at hvr
  have hx := tx_itoa v hvr.1 hvr.2 w1 HT1.out.tab
  have hcut : ((⟨(Lib.itoa v).toArray⟩ : ByteArray).toList = s.toList) = (Lib.itoa v = s.data.toList) := by
    rw [bytes_eq]
    refine propext ⟨fun e => ?_, fun e => ?_⟩
    · rw [← e]
    · have := congrArg bs e
      rw [bs_of] at this; exact this
  obtain ⟨V, hV⟩ : ∃ V : ByteArray, V = ⟨(Lib.itoa v).toArray⟩ := ⟨_, rfl⟩
  rw [← hV] at hcut hx
  have HI := Lib.hid hi
  have HC := Lib.hid hcut
  clear hi hV hcut hv
  go_wp2_with fail
  refine hx.mono ?_
  clear hx
  rintro e w2 ⟨rfl, hb2⟩
  have hB2 := hB1.trans (hb2.mono hB1.size)
  have hbk2 := (hb2.block _ (Array.getElem?_eq_some_iff.1 hbk1).1).trans hbk1
  clear hbk1 HT1
  obtain ⟨k1, k2, k3, k4⟩ := res3 (.int .i64 0) (.int .i64 0) (.string ⟨#[]⟩) hB2 hbk2
  have y0 := block_cell hbk2 0
  have y1 := block_cell hbk2 1
  have y2 := block_cell hbk2 2
  have g0 := block_free hbk2 0
  have g1 := block_free hbk2 1
  have g2 := block_free hbk2 2
  by_cases hc : Lib.itoa v = s.data.toList
  case neg =>
    have hi : intL9 s.data.toList = none := by rw [HI.out, if_neg (fun e => hc e.1)]
    have HE : Hid (readE s.data.toList = 2 ∧ readV s.data.toList = ⟨0, 0, .empty⟩) := by
      have h1 : readE s.data.toList = 2 := by rw [hrE.out, hi]
      exact ⟨h1, readV_bad (by rw [h1]; decide)⟩
    have hS : (!V.toList == s.toList) = true := by
      rw [Bool.not_eq_true', beq_eq_false_iff_ne]
      intro e
      rw [HC.out] at e; exact hc e
    clear hrE hrV hi HI HC hc hbk2
    go_wp2_with fail
    exact bodyPost_ret (v := .tuple #[.agg #[.int .i64 0, .int .i64 0, .string ⟨#[]⟩], .iface 74 (.int .i64 2)]) (by simp [results, Tryz.results28, go_sem, k2, k3, k4]) rfl ⟨by rw [HE.out.1, HE.out.2]; rfl, k1⟩
  have hS : (!V.toList == s.toList) = false := by
    have e : V.toList = s.toList := by rw [HC.out]; exact hc
    rw [e]; simp
  have htr := tx_trimPrefix s ⟨#[45]⟩ w2
  have hte : Lib.trimPrefix s.data.toList (⟨#[45]⟩ : ByteArray).data.toList = Lib.trimPrefix s.data.toList [45] := rfl
  rw [hte] at htr
  have hts : (⟨(Lib.trimPrefix s.data.toList [45]).toArray⟩ : ByteArray).size = (Lib.trimPrefix s.data.toList [45]).length := bs_size _
  have HTS := Lib.hid hts
  have HHC := Lib.hid hc
  generalize (⟨(Lib.trimPrefix s.data.toList [45]).toArray⟩ : ByteArray) = tr at *
  by_cases h9 : 9 < tr.size
  · have hi : intL9 s.data.toList = none := by rw [HI.out, if_neg (fun e => by have := e.2; omega)]
    have HE : Hid (readE s.data.toList = 2 ∧ readV s.data.toList = ⟨0, 0, .empty⟩) := by
      have h1 : readE s.data.toList = 2 := by rw [hrE.out, hi]
      exact ⟨h1, readV_bad (by rw [h1]; decide)⟩
    have h9' : (9 : Int) < (tr.size : Int) := by omega
    clear hrE hrV hi HI HC hc hbk2 hts hte
    go_wp2_with fail
    refine htr.mono ?_
    clear htr
    rintro e w9 ⟨rfl, hw⟩
    have hw := hw.symm
    subst hw
    go_wp2_with fail
    exact bodyPost_ret (v := .tuple #[.agg #[.int .i64 0, .int .i64 0, .string ⟨#[]⟩], .iface 74 (.int .i64 2)]) (by simp [results, Tryz.results28, go_sem, k2, k3, k4]) rfl ⟨by rw [HE.out.1, HE.out.2]; rfl, k1⟩
  have hi : intL9 s.data.toList = some v := by rw [HI.out, if_pos ⟨hc, by omega⟩]
  have h9' : decide ((9 : Int) < (tr.size : Int)) = false := decide_eq_false (by omega)
  have HV : Hid (valE ⟨1, v, ⟨#[]⟩⟩ = readE s.data.toList ∧ (readE s.data.toList = 0 → readV s.data.toList = ⟨1, v, .empty⟩) ∧ (readE s.data.toList ≠ 0 → readV s.data.toList = ⟨0, 0, .empty⟩)) := by
    have he : ByteArray.empty.toList.isEmpty = true := (empty_iff _).2 rfl
    refine ⟨?_, fun h0 => ?_, readV_bad⟩
    · rw [hrE.out, hi]
      show valE ⟨1, v, .empty⟩ = if v < -1000000 ∨ 1000000 < v then 1 else 0
      unfold valE valLo valHi
      have h1 : ByteArray.empty.data.toList.any strC = false := rfl
      simp only [h1, he]
      simp
    · rw [hrV.out h0, hi]
  have hck := check_any ⟨1, v, ⟨#[]⟩⟩ ⟨by show I64 1; unfold I64; omega, by show I64 v; unfold I64; omega, by unfold Sm; show (0 : Nat) ≤ _; omega⟩
  generalize valE ⟨1, v, ⟨#[]⟩⟩ = ee at *
  have ha2 : Below w2.heap.size w2 (w2.alloc (.cells #[.int .i64 1, .int .i64 v, .string ⟨#[]⟩] 25)) := (Below.refl _ _).alloc (Nat.le_refl _) _
  have hB3 := hB2.trans (ha2.mono hB2.size)
  have hbk3 := (ha2.block _ (Array.getElem?_eq_some_iff.1 hbk2).1).trans hbk2
  have hq3 := heap_alloc_new w2 (.cells #[.int .i64 1, .int .i64 v, .string ⟨#[]⟩] 25)
  have hx := hck (w2.alloc (.cells #[.int .i64 1, .int .i64 v, .string ⟨#[]⟩] 25))
  have hne : w.heap.size ≠ w2.heap.size := by have := (Array.getElem?_eq_some_iff.1 hbk2).1; omega
  clear hrE hrV hi HI HC hc hbk2 hts hte hck k1 k2 k3 k4 y0 y1 y2 g0 g1 g2 h9
  go_wp2_with fail
  refine htr.mono ?_
  clear htr
  rintro e w9 ⟨rfl, hw⟩
  have hw := hw.symm
  subst hw
  go_wp2_with fail
  generalize w2.alloc (.cells #[.int .i64 1, .int .i64 v, .string ⟨#[]⟩] 25) = w3 at *
  refine hx.mono ?_
  clear hx
  rintro e w4 ⟨rfl, hb4⟩
  have hB4 := hB3.trans (hb4.mono hB3.size)
  have hbk4 := (hb4.block _ (Array.getElem?_eq_some_iff.1 hbk3).1).trans hbk3
  have hq4 := (hb4.block _ (Array.getElem?_eq_some_iff.1 hq3).1).trans hq3
  have y0 := block_cell hbk4 0
  have y1 := block_cell hbk4 1
  have y2 := block_cell hbk4 2
  have g0 := block_free hbk4 0
  have g1 := block_free hbk4 1
  have g2 := block_free hbk4 2
  have z0 := block_cell hq4 0
  have z1 := block_cell hq4 1
  have z2 := block_cell hq4 2
  by_cases hz : ee = 0
  · have HE : Hid (readE s.data.toList = 0 ∧ readV s.data.toList = ⟨1, v, .empty⟩) := by
      have h1 := HV.out.1
      rw [hz] at h1
      exact ⟨h1.symm, HV.out.2.1 h1.symm⟩
    obtain ⟨k1, k2, k3, k4⟩ := res3 (.int .i64 1) (.int .i64 v) (.string ⟨#[]⟩) hB4 hbk4
    rw [errV_zero hz]
    clear hz HV hbk3 hbk4 hq3 hq4
    go_wp2_with fail
    exact bodyPost_ret (v := .tuple #[.agg #[.int .i64 1, .int .i64 v, .string ⟨#[]⟩], .nilIface]) (by simp [results, Tryz.results28, go_sem, k2, k3, k4]) rfl ⟨by rw [HE.out.1, HE.out.2]; rfl, k1⟩
  · have HE : Hid (errV (readE s.data.toList) = .iface 74 (.int .i64 ee) ∧ readV s.data.toList = ⟨0, 0, .empty⟩) := by
      have h1 := HV.out.1
      exact ⟨by rw [← h1]; exact errV_some hz, HV.out.2.2 (by rw [← h1]; exact hz)⟩
    obtain ⟨k1, k2, k3, k4⟩ := res3 (.int .i64 0) (.int .i64 0) (.string ⟨#[]⟩) hB4 hbk4
    rw [errV_some hz]
    clear hz HV hbk3 hbk4 hq3 hq4
    go_wp2_with fail
    exact bodyPost_ret (v := .tuple #[.agg #[.int .i64 0, .int .i64 0, .string ⟨#[]⟩], .iface 74 (.int .i64 ee)]) (by simp [results, Tryz.results28, go_sem, k2, k3, k4]) rfl ⟨by rw [HE.out.1, HE.out.2]; rfl, k1⟩

/-- A record that is the call's own. -/
def OwnP (w : World) (B : Nat) (v : Value) (l : List Prp) : Prop := Own w B 27 4 v l.length (l.flatMap Prp.enc) ∧ ∀ x ∈ l, x.ok
theorem OwnP.nil {w : World} {B : Nat} : OwnP w B (.slice none 0 0) [] := ⟨Own.nil _ _ _ _, fun x hx => by cases hx⟩

theorem val_ok {v : Val} (h : valE v = 0) : v.ok := by
  rcases val_parts h with ⟨h1, h2, h3, h4⟩ | ⟨h1, h2, h3⟩ | ⟨h1, h2, h3, _⟩
  · exact ⟨by rw [h1]; unfold I64; omega, by unfold I64; omega, by rw [h4]; unfold Sm; show (0 : Nat) ≤ _; omega⟩
  · exact ⟨by rw [h1]; unfold I64; omega, by unfold I64; omega, by rw [h3]; unfold Sm; show (0 : Nat) ≤ _; omega⟩
  · exact ⟨by rw [h1]; unfold I64; omega, by rw [h2]; unfold I64; omega, by unfold Sm; omega⟩
theorem cut_lens (c : UInt8) (l : List UInt8) : (Lib.cut l [c]).1.length ≤ l.length ∧ (Lib.cut l [c]).2.1.length ≤ l.length := by
  rcases cut_cases c l with ⟨h, _⟩ | ⟨a, r, rfl, _, h⟩
  · rw [h]; exact ⟨Nat.le_refl _, Nat.zero_le _⟩
  · rw [h]; simp; omega
theorem cutL_len (c : UInt8) (l : List UInt8) : (cutL c l).length ≤ l.length + 1 := by
  have key : ∀ (l : List UInt8) (q : Bool) (cur : List UInt8), (cutF c q cur l).length ≤ l.length + 1 := by
    intro l
    induction l with
    | nil => intro q cur; simp [cutF]
    | cons x l ih =>
      intro q cur
      rw [cutF_cons]
      split
      · have := ih (!q) (cur ++ [x]); simp; omega
      · split
        · have := ih false []; simp; omega
        · have := ih q (cur ++ [x]); simp; omega
  exact key l false []
theorem prp_info : (Tryz.prog.info? 27).map (fun i => (i.zero, i.size, i.bytes)) = some (some (.agg #[.string .empty, .int .i64 0, .int .i64 0, .string .empty]), 4, 48) := by kernel_rfl
theorem prp_snoc (l : List Prp) (p : Prp) : (l ++ [p]).flatMap Prp.enc = l.flatMap Prp.enc ++ Prp.enc p := by simp
set_option maxRecDepth 100000 in
set_option maxHeartbeats 8000000 in
theorem rparse_own (s : ByteArray) (hs : Sm s) (w : World) (hT : TxOk w) :
    Calls Tryz.prog 8 #[.string s] w fun e w' => ∃ A k, e = .returned (.tuple #[.slice A (readRV s.data.toList).length k, errV (readRE s.data.toList)]) ∧ OwnP w' w.heap.size (.slice A (readRV s.data.toList).length k) (readRV s.data.toList) ∧ Below w.heap.size w w' := by
  obtain ⟨i0, ei, ez, ez1, ez2⟩ := info_parts prp_info
  have hle := len_size s
  have e1 : (bs [45]).toList = [45] := by decide +kernel
  by_cases h1 : s = bs [45]
  · have HE : Hid (readRE s.data.toList = 0 ∧ readRV s.data.toList = []) := by
      unfold Hid; rw [h1, bs_list]; exact ⟨rfl, rfl⟩
    have h2 : s.toList = [45] := by rw [h1]; exact e1
    clear h1 e1 hle hT hs
    go_enter Tryz.func8, Tryz.ntmps8
    go_wp2_with fail
    go_ret2
    exact ⟨none, 0, by rw [HE.out.1, HE.out.2]; rfl, by rw [HE.out.2]; exact OwnP.nil, Below.refl _ _⟩
  have n1 : ¬ s.toList = [45] := fun e => h1 (by rw [← bytes_eq, e1]; exact e)
  have b1 : (s.toList == [45]) = false := beq_eq_false_iff_ne.2 n1
  have hl1 : s.data.toList ≠ [45] := fun e => h1 (by rw [← e, bs_of])
  have HRE : Hid (readRE s.data.toList = match propsP (cutL 44 s.data.toList) with | none => 2 | some r => recE r) := by
    unfold Hid readRE; rw [if_neg hl1]; rfl
  have HRV : Hid (readRV s.data.toList = match propsP (cutL 44 s.data.toList) with | none => [] | some r => if recE r = 0 then r else []) := by
    unfold Hid readRV; rw [if_neg hl1]; rfl
  have HXC := Lib.hid (fun wx => cut_any s 44 wx hs)
  have HT := Lib.hid hT
  unfold Sm at hs
  have hcl : (cutL 44 s.data.toList).length ≤ 1048577 := by have := cutL_len 44 s.data.toList; omega
  have HLE := Lib.hid hle
  generalize cutL 44 s.data.toList = P at *
  clear h1 e1 hl1 hT hle n1
  have hx := HXC.out w
  have e44 : (Value.int .u8 ((44 : UInt8).toNat : Int)) = .int .u8 44 := rfl
  rw [e44] at hx
  clear HXC
  go_enter Tryz.func8, Tryz.ntmps8
  go_wp2_with fail
  refine hx.mono ?_
  clear hx
  rintro e w1 ⟨A1, c1, rfl, hsl, hb1⟩
  have HSL := Lib.hid hsl
  have HT1 := Lib.hid (HT.out.below hb1)
  clear hsl HT
  go_wp2_with fail
  go_loopw [4, 6, 7, 8, 9, 10, 11, 18] (fun x4 _ _ _ _ _ _ i wr => ∃ (k : Nat) (u : List Prp), k ≤ P.length ∧ u.length = k ∧ i = .int .i64 k ∧ Below w1.heap.size w1 wr ∧ Hid (propsP (P.take k) = some u ∧ ∀ p ∈ u, p.ok) ∧ Hid (Own wr w1.heap.size 27 4 x4 k (u.flatMap Prp.enc))) (fun _ _ _ _ _ _ _ i _ => P.length - (intOf i).toNat)
  case atStart => exact ⟨0, [], Nat.zero_le _, rfl, rfl, Below.refl _ _, ⟨rfl, fun _ h => by cases h⟩, Own.nil _ _ _ _⟩
  case round =>
    obtain ⟨k, u, hk, hu, rfl, hbr, HP, HO⟩ := hrel
    obtain ⟨wo, hwo⟩ : ∃ wo : World, wo = wr := ⟨_, rfl⟩
    subst hwo
    obtain ⟨A4, c4, rfl, hc4, _⟩ := HO.out.form
    have HU := Lib.hid hu
    clear hu
    by_cases hlt : k < P.length
    · obtain ⟨x, hx⟩ : ∃ x, P[k]? = some x := ⟨_, List.getElem?_eq_getElem hlt⟩
      have hlt' : (k : Int) < (P.length : Int) := by omega
      obtain ⟨gb, o, rfl, hxs, q0⟩ := str_at (HSL.out.below hbr) (d := bs x) (by rw [List.getElem?_map, hx]; rfl)
      obtain ⟨t1, t2⟩ := propsP_take HP.out.1 hx
      unfold Sm at hxs
      have hxl : (bs x).data.toList = x := bs_list x
      have hxz := bs_size x
      obtain ⟨l1, l2⟩ := cut_lens 61 x
      have hx1 := tx_cut (bs x) 61 wo (HT1.out.below hbr).toTxP (by omega)
      rw [hxl] at hx1
      have HPI : Hid (pieceP x = if (Lib.cut x [61]).2.2 = true ∧ readE (Lib.cut x [61]).2.1 = 0 then some ⟨bs (Lib.cut x [61]).1, readV (Lib.cut x [61]).2.1⟩ else none) := rfl
      have hx2 := fun wx => vparse_any (bs (Lib.cut x [61]).2.1) (by unfold Sm; rw [bs_size]; omega) wx
      rw [bs_list] at hx2
      have hna : (bs (Lib.cut x [61]).1).size ≤ 1048576 := by rw [bs_size]; omega
      obtain ⟨na, hnaE⟩ : ∃ na, na = (Lib.cut x [61]).1 := ⟨_, rfl⟩
      obtain ⟨va, hvaE⟩ : ∃ va, va = (Lib.cut x [61]).2.1 := ⟨_, rfl⟩
      obtain ⟨iz, hizE⟩ : ∃ iz, iz = (Lib.cut x [61]).2.2 := ⟨_, rfl⟩
      rw [← hnaE, ← hvaE, ← hizE] at hx1 HPI
      rw [← hvaE] at hx2
      rw [← hnaE] at hna
      have T1 := Lib.hid t1
      have T2 := Lib.hid t2
      have HRO : Hid (readE va = 0 → (readV va).ok) := fun h => val_ok (show_read h).1
      generalize readE va = re at *
      generalize readV va = rv at *
      obtain ⟨rt, rn, rs⟩ := rv
      clear hx hxl hxz l1 l2 hnaE hvaE hizE t1 t2 hk hxs
      generalize bs na = nb at *
      generalize bs va = vb at *
      generalize bs x = xb at *
      go_wp2_with fail
      refine hx1.mono ?_
      clear hx1 q0
      rintro e w2 ⟨rfl, hb2⟩
      have hB2 := hbr.trans (hb2.mono hbr.size)
      have hx3 := hx2 w2 ((HT1.out.below hbr).below hb2)
      have HO2 := Lib.hid (HO.out.below hb2)
      clear hx2 HO hb2 hbr
      go_wp2_with fail
      refine hx3.mono ?_
      clear hx3
      rintro e w3 ⟨rfl, hb3⟩
      have hB3 := hB2.trans (hb3.mono hB2.size)
      have HO3 := Lib.hid (HO2.out.below hb3)
      have ha := (Below.refl w3.heap.size w3).alloc (Nat.le_refl _) (.cells #[.int .i64 rt, .int .i64 rn, .string rs] 25)
      have hB4 := hB3.trans (ha.mono hB3.size)
      have HO4 := Lib.hid (HO3.out.below ha)
      have hbk := heap_alloc_new w3 (.cells #[.int .i64 rt, .int .i64 rn, .string rs] 25)
      clear HO2 HO3 hB2 hB3 hb3
      by_cases hgood : iz = true ∧ re = 0
      case neg =>
        have HN : Hid (readRE s.data.toList = 2 ∧ readRV s.data.toList = []) := by
          have hp : propsP P = none := T1.out (by rw [HPI.out, if_neg hgood])
          unfold Hid
          rw [HRE.out, HRV.out, hp]; exact ⟨rfl, rfl⟩
        have hBF := hb1.trans (hB4.mono hb1.size)
        clear HPI T1 T2 HRE HRV HRO HO4 HP
        cases iz with
        | false =>
          go_wp2_with fail
          go_ret2
          exact ⟨none, 0, by rw [HN.out.1, HN.out.2]; rfl, by rw [HN.out.2]; exact OwnP.nil, hBF⟩
        | true =>
          have hre : re ≠ 0 := fun e => hgood ⟨rfl, e⟩
          rw [errV_some hre]
          clear hgood hre
          go_wp2_with fail
          go_ret2
          exact ⟨none, 0, by rw [HN.out.1, HN.out.2]; rfl, by rw [HN.out.2]; exact OwnP.nil, hBF⟩
      obtain ⟨hg1, hg2⟩ := hgood
      have HN := Lib.hid (T2.out ⟨nb, rt, rn, rs⟩ (by rw [HPI.out, if_pos ⟨hg1, hg2⟩]))
      have hok : (⟨nb, rt, rn, rs⟩ : Prp).ok := ⟨hna, HRO.out hg2⟩
      have HOKN : Hid (∀ p ∈ u ++ [(⟨nb, rt, rn, rs⟩ : Prp)], p.ok) := fun p hp => by
        rcases List.mem_append.1 hp with hp | hp
        · exact HP.out.2 p hp
        · rcases List.mem_singleton.1 hp with rfl; exact hok
      rw [errV_zero hg2]
      subst hg1
      clear hg2 HPI T1 T2 HRO hok
      go_upto_region 9 with fail
      generalize w3.alloc (.cells #[.int .i64 rt, .int .i64 rn, .string rs] 25) = w4 at *
      have z0 := block_cell hbk 0
      have z1 := block_cell hbk 1
      have z2 := block_cell hbk 2
      have hA4 := hB4.alloc hB4.size (.cells #[.string nb, .int .i64 rt, .int .i64 rn, .string rs] 27)
      have HOA : Hid (Own (w4.alloc (.cells #[.string nb, .int .i64 rt, .int .i64 rn, .string rs] 27)) w1.heap.size 27 4 (.slice A4 k c4) k (u.flatMap Prp.enc)) := HO4.out.alloc _
      have HNW : Hid (∀ j v, ([.string nb, .int .i64 rt, .int .i64 rn, .string rs] : List Value)[j]? = some v → (w4.alloc (.cells #[.string nb, .int .i64 rt, .int .i64 rn, .string rs] 27)).cell? ⟨w4.heap.size, j, none⟩ = some v) := fun j v hj => by
        rw [World.cell?_alloc_at _ _ _ _ rfl]; simpa using hj
      clear HO4 hbk hB4 ha
      go_wp2_with (at_builtin; refine wpList_append_q _ rfl (.tmp 40) (.tmp 44) _ rfl w1.heap.size 27 i0 (.agg #[.string .empty, .int .i64 0, .int .i64 0, .string .empty]) 4 48 Tryz.underlying23 ei ez ez1 ez2 rfl (by decide) (.slice A4 k c4) k (u.flatMap Prp.enc) rfl HOA.out (some ⟨w4.heap.size, 0, none⟩) 1 1 [.string nb, .int .i64 rt, .int .i64 rn, .string rs] rfl rfl (fun _ => ⟨_, rfl, fun j v hj => by rw [addr_add, Nat.zero_add]; exact HNW.out j v hj⟩) (fun v hv => by simp at hv; rcases hv with rfl | rfl | rfl | rfl <;> rfl) (by unfold maxLen; omega) (by omega) (by have := hA4.size; exact this) ?_; intro v9 w9 hown9 hg9 hat9)
      have hB9 : Below w1.heap.size w1 w9 := hA4.grown hg9 hA4.size (fun kk e => (HOA.out.lt kk e).1)
      have HO9 : Hid (Own w9 w1.heap.size 27 4 v9 (k + 1) ((u ++ [(⟨nb, rt, rn, rs⟩ : Prp)]).flatMap Prp.enc)) := by unfold Hid; rw [prp_snoc]; exact hown9
      clear hg9 hat9 hown9 HOA HNW hA4 z0 z1 z2
      go_wp2_with fail
      go_roundw
      case rel => exact ⟨k + 1, u ++ [(⟨nb, rt, rn, rs⟩ : Prp)], by omega, by simp [HU.out], by go_num, hB9, ⟨HN.out, HOKN.out⟩, HO9⟩
      case measure => simp [intOf]; omega
    · obtain rfl : k = P.length := by omega
      have hdn : decide (P.length < P.length) = false := by simp
      have hpp : propsP P = some u := by have := HP.out.1; rwa [List.take_length] at this
      have HE : Hid (readRE s.data.toList = recE u ∧ readRV s.data.toList = if recE u = 0 then u else []) := by
        unfold Hid; rw [HRE.out, HRV.out, hpp]; exact ⟨rfl, rfl⟩
      have HS : Hid (Sl prpL wo (.slice A4 u.length c4) u) := Own.prps (by have h := HO.out; rw [← HU.out] at h; exact h) HP.out.2
      have HOW : Hid (Own wo w1.heap.size 27 4 (.slice A4 u.length c4) u.length (u.flatMap Prp.enc)) := by have h := HO.out; rw [← HU.out] at h; exact h
      have HPO : Hid (∀ p ∈ u, p.ok) := HP.out.2
      have hx := recCheck_any u (.slice A4 u.length c4) wo HS.out
      rw [HU.out] at hx
      have hBo := hb1.trans (hbr.mono hb1.size)
      generalize recE u = ee at *
      clear hpp HRE HRV HP HO hk hlt
      go_wp2_with fail
      refine hx.mono ?_
      clear hx
      rintro e w8 ⟨rfl, hb8⟩
      have hB8 := hBo.trans (hb8.mono hBo.size)
      by_cases hz : ee = 0
      · have HF : Hid (readRE s.data.toList = 0 ∧ readRV s.data.toList = u) := by
          unfold Hid; rw [HE.out.1, HE.out.2, if_pos hz]; exact ⟨hz, rfl⟩
        rw [errV_zero hz]
        clear hz HE
        go_wp2_with fail
        go_ret2
        refine ⟨A4, c4, ?_, ?_, hB8⟩
        · rw [HF.out.1, HF.out.2, HU.out]; rfl
        · rw [HF.out.2]
          exact ⟨(HOW.out.below hb8).mono hb1.size, HPO.out⟩
      · have HF : Hid (errV (readRE s.data.toList) = .iface 74 (.int .i64 ee) ∧ readRV s.data.toList = []) := by
          unfold Hid; rw [HE.out.1, HE.out.2, if_neg hz]; exact ⟨errV_some hz, rfl⟩
        rw [errV_some hz]
        clear hz HE
        go_wp2_with fail
        go_ret2
        exact ⟨none, 0, by rw [HF.out.1, HF.out.2]; rfl, by rw [HF.out.2]; exact OwnP.nil, hB8⟩
end Go.Proofs.YtmbeeaohidgfgaaGreatDoor
