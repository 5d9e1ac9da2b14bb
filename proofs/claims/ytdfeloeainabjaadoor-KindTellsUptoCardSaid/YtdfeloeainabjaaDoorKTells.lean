/- Contract: the law KindTells answers true. -/
import Derived.Test.YtdfeloeainabjaaDoorRefG
import Derived.Test.YtdfeloeainabjaaDoorTold
namespace Go.Proofs.YtdfeloeainabjaaDoor
open Go Go.RowKit

theorem readyE_none {l : List Knd} {s : List ByteArray} {z : Int} (h : (checkE l).2 = z) (hz : z ≠ 0) : readyE l s = z := by unfold readyE; rw [h, if_neg hz]
theorem readyE_one {l : List Knd} {a : ByteArray} (h : (checkE l).2 = 0) : readyE l [a] = if kFind l a < 0 then 5 else 0 := by
  unfold readyE; rw [if_pos h]; simp
theorem readyE_two {l : List Knd} {a b : ByteArray} (h : (checkE l).2 = 0) (ha : ¬ kFind l a < 0) : readyE l [a, b] = if kFind l b < 0 then 5 else 0 := by
  unfold readyE; rw [if_pos h]; simp [ha]
theorem readyE_two5 {l : List Knd} {a b : ByteArray} (h : readyE l [a] ≠ 0) : readyE l [a, b] = readyE l [a] := by
  by_cases hz : (checkE l).2 = 0
  · rw [readyE_one hz] at h ⊢
    unfold readyE; rw [if_pos hz]
    by_cases hk : kFind l a < 0
    · simp [hk]
    · simp [hk] at h
  · rw [readyE_none rfl hz, readyE_none rfl hz]
set_option maxRecDepth 100000 in
set_option maxHeartbeats 4000000 in
theorem kindTells_any (l : List Knd) (a b : ByteArray) (v : Value) (w : World) (hg : GlobOk w) (hv : Sl kndL w v l) (ha : Sm a) (hb : Sm b) :
    Calls Tryd.prog 7 #[v, .string a, .string b] w fun e w' => e = .returned (.bool true) ∧ Below w.heap.size w w' := by
  have HV := Lib.hid hv
  have h1 := rkinds_any l v w hv
  obtain ⟨A, c, rfl, hlc, hcA⟩ := hv.form
  clear hv
  go_enter Tryd.func7, Tryd.ntmps7
  go_wp2_with fail
  refine h1.mono ?_
  clear h1
  rintro e w1 ⟨rfl, hb1⟩
  have h2 := kcheck_any l _ w1 (HV.out.below hb1)
  go_wp2_with fail
  refine h2.mono ?_
  clear h2
  rintro e w2 ⟨rfl, hb2⟩
  have hB2 := hb1.trans (hb2.mono hb1.size)
  have h3 := same_any (checkE l).2 (checkE l).2 w2 (hg.below hB2)
  rw [beq_self_eq_true] at h3
  generalize hcn : (checkE l).1 = cn at *
  generalize hcz : (checkE l).2 = cz at *
  have HC := Lib.hid hcz
  clear hcn hcz
  go_wp2_with fail
  refine h3.mono ?_
  clear h3
  rintro e w3 ⟨rfl, hb3⟩
  have hB3 := hB2.trans (hb3.mono hB2.size)
  clear hb1 hb2 hb3 hB2
  by_cases hz : cz = 0
  · subst hz
    have HF0 := Lib.hid (readyE_one (a := a) HC.out)
    have hkf := rkind_any l a _ w3 (HV.out.below hB3)
    generalize hzz : kFind l a = z at *
    have HZ := Lib.hid hzz
    clear hzz
    go_wp2_with fail
    refine hkf.mono ?_
    clear hkf
    rintro e w4 ⟨rfl, rfl⟩
    by_cases hz0 : z < 0
    · have HF : Hid (readyE l [a] = 5) := by unfold Hid; rw [HF0.out, if_pos hz0]
      have HK1 : Hid (Sl strL w3 (.slice none 0 0) (kinR l a)) := by unfold Hid kinR; rw [HF.out, if_neg (by omega)]; exact Sl.nil 0 (Nat.zero_le _) none
      have HK2 : Hid (Sl strL w3 (.slice none 0 0) (underR l a)) := by unfold Hid underR; rw [HF.out, if_neg (by omega)]; exact Sl.nil 0 (Nat.zero_le _) none
      have HK3 : Hid (Sl fldL w3 (.slice none 0 0) (fieldsR l a)) := by unfold Hid fieldsR; rw [HF.out, if_neg (by omega)]; exact Sl.nil 0 (Nat.zero_le _) none
      have HF2 : Hid (readyE l [a, b] = 5) := by unfold Hid; rw [readyE_two5 (by rw [HF.out]; omega), HF.out]
      have HI : Hid (isR l a b = false) := by unfold Hid isR; rw [HF2.out, if_neg (by omega)]
      clear HF0
      have hx := kin_any l a _ _ (HV.out.below hB3) ha
      rw [HF.out] at hx
      go_wp2_with fail
      refine hx.mono ?_
      clear hx
      rintro e w4 ⟨u4, rfl, hu4, hb4⟩
      have hB4 := hB3.trans (hb4.mono hB3.size)
      have hx := same_any 5 5 w4 (hg.below hB4)
      rw [beq_self_eq_true] at hx
      obtain ⟨A4, c4, rfl, _, _⟩ := hu4.form
      have HU4 := Lib.hid hu4
      clear hu4
      go_wp2_with fail
      refine hx.mono ?_
      clear hx
      rintro e w5 ⟨rfl, hb5⟩
      have hB5 := hB4.trans (hb5.mono hB4.size)
      have hx := texts_any (kinR l a) (kinR l a) _ _ w5 (HU4.out.below hb5) (HK1.out.below ((hb4.trans (hb5.mono hb4.size))))
      rw [decide_eq_true rfl] at hx
      generalize kinR l a = kl at *
      go_wp2_with fail
      refine hx.mono ?_
      clear hx
      rintro e w6 ⟨rfl, hb6⟩
      have hB6 := hB5.trans (hb6.mono hB5.size)
      have hq6 := (hb4.trans (hb5.mono hb4.size)).trans (hb6.mono (hb4.trans (hb5.mono hb4.size)).size)
      have hx := under_any l a _ _ (HV.out.below hB6) ha
      rw [HF.out] at hx
      go_wp2_with fail
      refine hx.mono ?_
      clear hx
      rintro e w7 ⟨u7, rfl, hu7, hb7⟩
      have hB7 := hB6.trans (hb7.mono hB6.size)
      have hq7 := hq6.trans (hb7.mono hq6.size)
      have hx := same_any 5 5 w7 (hg.below hB7)
      rw [beq_self_eq_true] at hx
      obtain ⟨A7, c7, rfl, _, _⟩ := hu7.form
      have HU7 := Lib.hid hu7
      clear hu7
      go_wp2_with fail
      refine hx.mono ?_
      clear hx
      rintro e w8 ⟨rfl, hb8⟩
      have hB8 := hB7.trans (hb8.mono hB7.size)
      have hq8 := hq7.trans (hb8.mono hq7.size)
      have hx := texts_any (underR l a) (underR l a) _ _ w8 (HU7.out.below hb8) (HK2.out.below hq8)
      rw [decide_eq_true rfl] at hx
      generalize underR l a = ul at *
      go_wp2_with fail
      refine hx.mono ?_
      clear hx
      rintro e w9 ⟨rfl, hb9⟩
      have hB9 := hB8.trans (hb9.mono hB8.size)
      have hq9 := hq8.trans (hb9.mono hq8.size)
      have hx := kfields_any l a _ _ (HV.out.below hB9) ha
      rw [HF.out] at hx
      go_wp2_with fail
      refine hx.mono ?_
      clear hx
      rintro e w10 ⟨u10, rfl, hu10, hb10⟩
      have hB10 := hB9.trans (hb10.mono hB9.size)
      have hq10 := hq9.trans (hb10.mono hq9.size)
      have hx := same_any 5 5 w10 (hg.below hB10)
      rw [beq_self_eq_true] at hx
      obtain ⟨A10, c10, rfl, _, _⟩ := hu10.form
      have HU10 := Lib.hid hu10
      clear hu10
      go_wp2_with fail
      refine hx.mono ?_
      clear hx
      rintro e w11 ⟨rfl, hb11⟩
      have hB11 := hB10.trans (hb11.mono hB10.size)
      have hq11 := hq10.trans (hb11.mono hq10.size)
      have hx := sfields_any (fieldsR l a) (fieldsR l a) _ _ w11 (HU10.out.below hb11) (HK3.out.below hq11)
      rw [decide_eq_true rfl] at hx
      generalize fieldsR l a = fl at *
      go_wp2_with fail
      refine hx.mono ?_
      clear hx
      rintro e w12 ⟨rfl, hb12⟩
      have hB12 := hB11.trans (hb12.mono hB11.size)
      clear hq6 hq7 hq8 hq9 hq10 hq11 hb4 hb5 hb6 hb7 hb8 hb9 hb10 hb11 hb12 hB4 hB5 hB6 hB7 hB8 hB9 hB10 hB11
      clear HU4 HU7 HU10 HK1 HK2 HK3
      have hx := is_any l a b _ _ (HV.out.below hB12) ha hb
      rw [HF2.out] at hx
      go_wp2_with fail
      refine hx.mono ?_
      clear hx
      rintro e w14 ⟨rfl, hb14⟩
      have hB14 := hB12.trans (hb14.mono hB12.size)
      have hx := same_any 5 5 w14 (hg.below hB14)
      rw [beq_self_eq_true] at hx
      rw [HI.out]
      go_wp2_with fail
      refine hx.mono ?_
      clear hx
      rintro e w15 ⟨rfl, hb15⟩
      have hB15 := hB14.trans (hb15.mono hB14.size)
      go_wp2_with fail
      go_ret
      exact ⟨rfl, hB15⟩
    · have hz1 : 0 ≤ z := by omega
      have HF : Hid (readyE l [a] = 0) := by unfold Hid; rw [HF0.out, if_neg hz0]
      have HR := Lib.hid (readyE_zero HF.out).1
      have hll := HR.out.len
      have hpos : 0 ≤ kFind l a := by rw [HZ.out]; exact hz1
      have HP := Lib.hid hpos
      have hx := rkin_any l a _ w3 (HV.out.below hB3) HR.out.wf hpos hll
      rw [show kinL l a = kinR l a by unfold kinR; rw [if_pos HF.out]] at hx
      clear HF0 hpos
      go_wp2_with fail
      refine hx.mono ?_
      clear hx
      rintro e w4 ⟨u4, rfl, hu4, hb4⟩
      have hB4 := hB3.trans (hb4.mono hB3.size)
      obtain ⟨A4, c4, rfl, _, _⟩ := hu4.form
      have HU4 := Lib.hid hu4
      clear hu4
      have hx := runder_any l a _ w4 (HV.out.below hB4) HR.out.wf hll
      rw [show underL l a = underR l a by unfold underR; rw [if_pos HF.out]] at hx
      go_wp2_with fail
      refine hx.mono ?_
      clear hx
      rintro e w5 ⟨u5, rfl, hu5, hb5⟩
      have hB5 := hB4.trans (hb5.mono hB4.size)
      obtain ⟨A5, c5, rfl, _, _⟩ := hu5.form
      have HU5 := Lib.hid hu5
      clear hu5
      have hx := rfields_any l a _ w5 (HV.out.below hB5) HR.out.wf HP.out hll (fun k hk => by
        obtain ⟨i, hi⟩ := List.mem_iff_getElem?.1 hk
        exact (HR.out.one i k hi).fll)
      go_wp2_with fail
      refine hx.mono ?_
      clear hx
      rintro e w6 ⟨u6, rfl, hu6, hb6⟩
      rw [show (fieldsOf l a).getD [] = fieldsR l a by unfold fieldsR; rw [if_pos HF.out]] at hu6
      have hB6 := hB5.trans (hb6.mono hB5.size)
      obtain ⟨A6, c6, rfl, _, _⟩ := hu6.form
      have HK1 : Hid (Sl strL w6 (.slice A4 (kinR l a).length c4) (kinR l a)) := HU4.out.below (hb5.trans (hb6.mono hb5.size))
      have HK2 : Hid (Sl strL w6 (.slice A5 (underR l a).length c5) (underR l a)) := HU5.out.below hb6
      have HK3 : Hid (Sl fldL w6 (.slice A6 (fieldsR l a).length c6) (fieldsR l a)) := hu6
      generalize (fieldsOf l a).isSome = q6
      clear HU4 HU5 hu6 hb4 hb5 hb6 hB4 hB5
      have hx := kin_any l a _ _ (HV.out.below hB6) ha
      rw [HF.out] at hx
      go_wp2_with fail
      refine hx.mono ?_
      clear hx
      rintro e w4 ⟨u4, rfl, hu4, hb4⟩
      have hB4 := hB6.trans (hb4.mono hB6.size)
      have hx := same_any 0 0 w4 (hg.below hB4)
      rw [beq_self_eq_true] at hx
      obtain ⟨A4, c4, rfl, _, _⟩ := hu4.form
      have HU4 := Lib.hid hu4
      clear hu4
      go_wp2_with fail
      refine hx.mono ?_
      clear hx
      rintro e w5 ⟨rfl, hb5⟩
      have hB5 := hB4.trans (hb5.mono hB4.size)
      have hx := texts_any (kinR l a) (kinR l a) _ _ w5 (HU4.out.below hb5) (HK1.out.below ((hb4.trans (hb5.mono hb4.size))))
      rw [decide_eq_true rfl] at hx
      generalize kinR l a = kl at *
      go_wp2_with fail
      refine hx.mono ?_
      clear hx
      rintro e w6 ⟨rfl, hb6⟩
      have hB6 := hB5.trans (hb6.mono hB5.size)
      have hq6 := (hb4.trans (hb5.mono hb4.size)).trans (hb6.mono (hb4.trans (hb5.mono hb4.size)).size)
      have hx := under_any l a _ _ (HV.out.below hB6) ha
      rw [HF.out] at hx
      go_wp2_with fail
      refine hx.mono ?_
      clear hx
      rintro e w7 ⟨u7, rfl, hu7, hb7⟩
      have hB7 := hB6.trans (hb7.mono hB6.size)
      have hq7 := hq6.trans (hb7.mono hq6.size)
      have hx := same_any 0 0 w7 (hg.below hB7)
      rw [beq_self_eq_true] at hx
      obtain ⟨A7, c7, rfl, _, _⟩ := hu7.form
      have HU7 := Lib.hid hu7
      clear hu7
      go_wp2_with fail
      refine hx.mono ?_
      clear hx
      rintro e w8 ⟨rfl, hb8⟩
      have hB8 := hB7.trans (hb8.mono hB7.size)
      have hq8 := hq7.trans (hb8.mono hq7.size)
      have hx := texts_any (underR l a) (underR l a) _ _ w8 (HU7.out.below hb8) (HK2.out.below hq8)
      rw [decide_eq_true rfl] at hx
      generalize underR l a = ul at *
      go_wp2_with fail
      refine hx.mono ?_
      clear hx
      rintro e w9 ⟨rfl, hb9⟩
      have hB9 := hB8.trans (hb9.mono hB8.size)
      have hq9 := hq8.trans (hb9.mono hq8.size)
      have hx := kfields_any l a _ _ (HV.out.below hB9) ha
      rw [HF.out] at hx
      go_wp2_with fail
      refine hx.mono ?_
      clear hx
      rintro e w10 ⟨u10, rfl, hu10, hb10⟩
      have hB10 := hB9.trans (hb10.mono hB9.size)
      have hq10 := hq9.trans (hb10.mono hq9.size)
      have hx := same_any 0 0 w10 (hg.below hB10)
      rw [beq_self_eq_true] at hx
      obtain ⟨A10, c10, rfl, _, _⟩ := hu10.form
      have HU10 := Lib.hid hu10
      clear hu10
      go_wp2_with fail
      refine hx.mono ?_
      clear hx
      rintro e w11 ⟨rfl, hb11⟩
      have hB11 := hB10.trans (hb11.mono hB10.size)
      have hq11 := hq10.trans (hb11.mono hq10.size)
      have hx := sfields_any (fieldsR l a) (fieldsR l a) _ _ w11 (HU10.out.below hb11) (HK3.out.below hq11)
      rw [decide_eq_true rfl] at hx
      generalize fieldsR l a = fl at *
      go_wp2_with fail
      refine hx.mono ?_
      clear hx
      rintro e w12 ⟨rfl, hb12⟩
      have hB12 := hB11.trans (hb12.mono hB11.size)
      clear hq6 hq7 hq8 hq9 hq10 hq11 hb4 hb5 hb6 hb7 hb8 hb9 hb10 hb11 hb12 hB4 hB5 hB6 hB7 hB8 hB9 hB10 hB11
      clear HU4 HU7 HU10 HK1 HK2 HK3
      have hkf := rkind_any l b _ w12 (HV.out.below hB12)
      have HF3 := Lib.hid (readyE_two (b := b) HC.out (by rw [HZ.out]; omega))
      generalize hzz : kFind l b = y at *
      clear hzz
      go_wp2_with fail
      refine hkf.mono ?_
      clear hkf
      rintro e w13 ⟨rfl, rfl⟩
      by_cases hy : y < 0
      · have HF2 : Hid (readyE l [a, b] = 5) := by unfold Hid; rw [HF3.out, if_pos hy]
        have HI : Hid (isR l a b = false) := by unfold Hid isR; rw [HF2.out, if_neg (by omega)]
        clear HF3
        have hx := is_any l a b _ _ (HV.out.below hB12) ha hb
        rw [HF2.out] at hx
        go_wp2_with fail
        refine hx.mono ?_
        clear hx
        rintro e w14 ⟨rfl, hb14⟩
        have hB14 := hB12.trans (hb14.mono hB12.size)
        have hx := same_any 5 5 w14 (hg.below hB14)
        rw [beq_self_eq_true] at hx
        rw [HI.out]
        go_wp2_with fail
        refine hx.mono ?_
        clear hx
        rintro e w15 ⟨rfl, hb15⟩
        have hB15 := hB14.trans (hb15.mono hB14.size)
        go_wp2_with fail
        go_ret
        exact ⟨rfl, hB15⟩
      · have hy1 : 0 ≤ y := by omega
        have HF2 : Hid (readyE l [a, b] = 0) := by unfold Hid; rw [HF3.out, if_neg hy]
        have HI : Hid (isR l a b = isKinB l a b) := by unfold Hid isR; rw [HF2.out, if_pos rfl]
        clear HF3
        have hx := ris_any l a b _ w12 (HV.out.below hB12) HR.out.wf HP.out hll
        generalize isKinB l a b = q at *
        go_wp2_with fail
        refine hx.mono ?_
        clear hx
        rintro e w13 ⟨rfl, hb13⟩
        have hB13 := hB12.trans (hb13.mono hB12.size)
        have HQ : (q == q) = true := beq_self_eq_true q
        have hx := is_any l a b _ _ (HV.out.below hB13) ha hb
        rw [HF2.out] at hx
        go_wp2_with fail
        refine hx.mono ?_
        clear hx
        rintro e w14 ⟨rfl, hb14⟩
        have hB14 := hB13.trans (hb14.mono hB13.size)
        have hx := same_any 0 0 w14 (hg.below hB14)
        rw [beq_self_eq_true] at hx
        rw [HI.out]
        go_wp2_with fail
        refine hx.mono ?_
        clear hx
        rintro e w15 ⟨rfl, hb15⟩
        have hB15 := hB14.trans (hb15.mono hB14.size)
        go_wp2_with fail
        go_ret
        exact ⟨rfl, hB15⟩
  · have HF : Hid (readyE l [a] = cz) := readyE_none HC.out hz
    have HF2 : Hid (readyE l [a, b] = cz) := readyE_none HC.out hz
    have HI : Hid (isR l a b = false) := by unfold Hid isR; rw [HF2.out, if_neg hz]
    have HK1 : Hid (Sl strL w3 (.slice none 0 0) (kinR l a)) := by unfold Hid kinR; rw [HF.out, if_neg hz]; exact Sl.nil 0 (Nat.zero_le _) none
    have HK2 : Hid (Sl strL w3 (.slice none 0 0) (underR l a)) := by unfold Hid underR; rw [HF.out, if_neg hz]; exact Sl.nil 0 (Nat.zero_le _) none
    have HK3 : Hid (Sl fldL w3 (.slice none 0 0) (fieldsR l a)) := by unfold Hid fieldsR; rw [HF.out, if_neg hz]; exact Sl.nil 0 (Nat.zero_le _) none
    have hx := kin_any l a _ _ (HV.out.below hB3) ha
    rw [HF.out] at hx
    go_wp2_with fail
    refine hx.mono ?_
    clear hx
    rintro e w4 ⟨u4, rfl, hu4, hb4⟩
    have hB4 := hB3.trans (hb4.mono hB3.size)
    have hx := same_any cz cz w4 (hg.below hB4)
    rw [beq_self_eq_true] at hx
    obtain ⟨A4, c4, rfl, _, _⟩ := hu4.form
    have HU4 := Lib.hid hu4
    clear hu4
    go_wp2_with fail
    refine hx.mono ?_
    clear hx
    rintro e w5 ⟨rfl, hb5⟩
    have hB5 := hB4.trans (hb5.mono hB4.size)
    have hx := texts_any (kinR l a) (kinR l a) _ _ w5 (HU4.out.below hb5) (HK1.out.below ((hb4.trans (hb5.mono hb4.size))))
    rw [decide_eq_true rfl] at hx
    generalize kinR l a = kl at *
    go_wp2_with fail
    refine hx.mono ?_
    clear hx
    rintro e w6 ⟨rfl, hb6⟩
    have hB6 := hB5.trans (hb6.mono hB5.size)
    have hq6 := (hb4.trans (hb5.mono hb4.size)).trans (hb6.mono (hb4.trans (hb5.mono hb4.size)).size)
    have hx := under_any l a _ _ (HV.out.below hB6) ha
    rw [HF.out] at hx
    go_wp2_with fail
    refine hx.mono ?_
    clear hx
    rintro e w7 ⟨u7, rfl, hu7, hb7⟩
    have hB7 := hB6.trans (hb7.mono hB6.size)
    have hq7 := hq6.trans (hb7.mono hq6.size)
    have hx := same_any cz cz w7 (hg.below hB7)
    rw [beq_self_eq_true] at hx
    obtain ⟨A7, c7, rfl, _, _⟩ := hu7.form
    have HU7 := Lib.hid hu7
    clear hu7
    go_wp2_with fail
    refine hx.mono ?_
    clear hx
    rintro e w8 ⟨rfl, hb8⟩
    have hB8 := hB7.trans (hb8.mono hB7.size)
    have hq8 := hq7.trans (hb8.mono hq7.size)
    have hx := texts_any (underR l a) (underR l a) _ _ w8 (HU7.out.below hb8) (HK2.out.below hq8)
    rw [decide_eq_true rfl] at hx
    generalize underR l a = ul at *
    go_wp2_with fail
    refine hx.mono ?_
    clear hx
    rintro e w9 ⟨rfl, hb9⟩
    have hB9 := hB8.trans (hb9.mono hB8.size)
    have hq9 := hq8.trans (hb9.mono hq8.size)
    have hx := kfields_any l a _ _ (HV.out.below hB9) ha
    rw [HF.out] at hx
    go_wp2_with fail
    refine hx.mono ?_
    clear hx
    rintro e w10 ⟨u10, rfl, hu10, hb10⟩
    have hB10 := hB9.trans (hb10.mono hB9.size)
    have hq10 := hq9.trans (hb10.mono hq9.size)
    have hx := same_any cz cz w10 (hg.below hB10)
    rw [beq_self_eq_true] at hx
    obtain ⟨A10, c10, rfl, _, _⟩ := hu10.form
    have HU10 := Lib.hid hu10
    clear hu10
    go_wp2_with fail
    refine hx.mono ?_
    clear hx
    rintro e w11 ⟨rfl, hb11⟩
    have hB11 := hB10.trans (hb11.mono hB10.size)
    have hq11 := hq10.trans (hb11.mono hq10.size)
    have hx := sfields_any (fieldsR l a) (fieldsR l a) _ _ w11 (HU10.out.below hb11) (HK3.out.below hq11)
    rw [decide_eq_true rfl] at hx
    generalize fieldsR l a = fl at *
    go_wp2_with fail
    refine hx.mono ?_
    clear hx
    rintro e w12 ⟨rfl, hb12⟩
    have hB12 := hB11.trans (hb12.mono hB11.size)
    clear hq6 hq7 hq8 hq9 hq10 hq11 hb4 hb5 hb6 hb7 hb8 hb9 hb10 hb11 hb12 hB4 hB5 hB6 hB7 hB8 hB9 hB10 hB11
    clear HU4 HU7 HU10 HK1 HK2 HK3
    have hx := is_any l a b _ _ (HV.out.below hB12) ha hb
    rw [HF2.out] at hx
    go_wp2_with fail
    refine hx.mono ?_
    clear hx
    rintro e w14 ⟨rfl, hb14⟩
    have hB14 := hB12.trans (hb14.mono hB12.size)
    have hx := same_any cz cz w14 (hg.below hB14)
    rw [beq_self_eq_true] at hx
    rw [HI.out]
    go_wp2_with fail
    refine hx.mono ?_
    clear hx
    rintro e w15 ⟨rfl, hb15⟩
    have hB15 := hB14.trans (hb15.mono hB14.size)
    go_wp2_with fail
    go_ret
    exact ⟨rfl, hB15⟩
end Go.Proofs.YtdfeloeainabjaaDoor
