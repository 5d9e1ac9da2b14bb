/- Parts: SrA, VpP, VpA, RpA. -/
import Derived.Test.YtflidfmpmakggaaGreatDoorMg08
import Derived.Test.YtflidfmpmakggaaGreatDoorMg03
import Derived.Lib.AtoiTie
import Derived.Test.YtflidfmpmakggaaGreatDoorMg07
import Derived.Test.YtflidfmpmakggaaGreatDoorMg04
/- Contract of the reference: kinref1.ShowRecord: a record that is right, as text. Condition: the record is right. -/
namespace Go.Proofs.YtflidfmpmakggaaGreatDoor
open Go Go.RowKit

theorem join_snoc (c : UInt8) : ∀ (xs : List (List UInt8)) (y : List UInt8), xs ≠ [] → Lib.join (xs ++ [y]) [c] = Lib.join xs [c] ++ c :: y
  | [], _, h => absurd rfl h
  | [a], y, _ => by
    show Lib.join [a, y] [c] = _
    rw [join_two, join_one, join_one]
  | a :: b :: m, y, _ => by
    show Lib.join (a :: b :: (m ++ [y])) [c] = _
    rw [join_two, join_two]
    have := join_snoc c (b :: m) y (by simp)
    have h : Lib.join (b :: (m ++ [y])) [c] = Lib.join (b :: m) [c] ++ c :: y := this
    rw [h]; simp
theorem prp_text2 (nm : ByteArray) (l : List UInt8) : nm ++ ⟨#[61]⟩ ++ bs l = bs (nm.data.toList ++ 61 :: l) := by
  show nm ++ bs [61] ++ bs l = _
  conv => lhs; rw [← bs_of nm]
  rw [bs_append, bs_append]; simp
set_option maxRecDepth 100000 in
set_option maxHeartbeats 4000000 in
theorem rshowRec_any (r : List Prp) (v : Value) (w : World) (hv : Sl prpL w v r) (hr : recE r = 0) :
    Calls Tryz.prog 45 #[v] w fun e w' => e = .returned (.string (bs (recT r))) ∧ Below w.heap.size w w' := by
  obtain ⟨A, c, rfl, _, _⟩ := hv.form
  have HV := Lib.hid hv
  obtain ⟨hl8, hok, _⟩ := rec_ok hr
  have HOK := Lib.hid hok
  have HF : Hid (recT r = if r.length = 0 then [45] else Lib.join (r.map prpT) [44]) := rfl
  clear hv hr hok
  by_cases h0 : r.length = 0
  · have h0b : ((r.length : Int) == 0) = true := by rw [h0]; rfl
    have h0p : (r.length : Int) = 0 := by omega
    have HE : Hid (recT r = [45]) := by unfold Hid; rw [HF.out, if_pos h0]
    clear h0
    go_enter Tryz.func45, Tryz.ntmps45
    go_wp2_with fail
    go_ret
    exact ⟨by rw [HE.out]; rfl, Below.refl _ _⟩
  have h0b : ((r.length : Int) == 0) = false := by rw [beq_eq_false_iff_ne]; omega
  have h0p : ¬ (r.length : Int) = 0 := by omega
  have HE : Hid (recT r = Lib.join (r.map prpT) [44]) := by unfold Hid; rw [HF.out, if_neg h0]
  clear h0 HF
  go_enter Tryz.func45, Tryz.ntmps45
  go_wp2_with fail
  clear h0b h0p
  go_loopw [3, 4] (fun sv i wr => ∃ k : Nat, k ≤ r.length ∧ i = .int .i64 k ∧ sv = .string (bs (Lib.join ((r.take k).map prpT) [44])) ∧ Below w.heap.size w wr) (fun _ i _ => r.length - (intOf i).toNat)
  case atStart => exact ⟨0, Nat.zero_le _, rfl, by rw [List.take_zero]; rfl, Below.refl _ _⟩
  case round =>
    obtain ⟨k, hk, rfl, rfl, hbr⟩ := hrel
    obtain ⟨wo, hwo⟩ : ∃ wo : World, wo = wr := ⟨_, rfl⟩
    subst hwo
    have hjl : (bs (Lib.join ((r.take k).map prpT) [44])).size ≤ 8 * 52 := by
      rw [bs_size]
      have h1 := join_len ((r.take k).map prpT) [44] 51 fun x hx => by
        obtain ⟨p, hp, rfl⟩ := List.mem_map.1 hx
        exact prp_len (HOK.out p (List.mem_of_mem_take hp))
      rw [List.length_map, List.length_take] at h1
      have h2 : (min k r.length) * (51 + ([44] : List UInt8).length) ≤ 8 * 52 := Nat.mul_le_mul (by omega) (Nat.le_refl _)
      omega
    by_cases hlt : k < r.length
    · have hlt' : (k : Int) < (r.length : Int) := by omega
      obtain ⟨p, hp⟩ : ∃ d, r[k]? = some d := ⟨_, List.getElem?_eq_getElem hlt⟩
      obtain ⟨gb, o, rfl, _, c0, c1, c2, c3⟩ := prp_at HV.out hp
      have q0 := cell_below hbr c0
      have q1 := cell_below hbr c1
      have q2 := cell_below hbr c2
      have q3 := cell_below hbr c3
      have HC0 := Lib.hid c0
      have hpe := HOK.out p (List.mem_of_getElem? hp)
      obtain ⟨hne, hve⟩ := prp_parts hpe
      have hx := rshow_any p.v hve wo
      have hnl : p.name.size ≤ 8 := by have := name_len hne; rw [Array.length_toList] at this; exact this
      have hsl : (bs (showL p.v)).size ≤ 42 := by rw [bs_size]; exact show_len hve
      have HT : Hid ((r.take (k + 1)).map prpT = (r.take k).map prpT ++ [prpT p]) := by unfold Hid; rw [List.take_add_one, hp, List.map_append]; rfl
      have HP : Hid (bs (prpT p) = p.name ++ ⟨#[61]⟩ ++ bs (showL p.v)) := by unfold Hid; rw [prp_text2]; rfl
      clear c0 c1 c2 c3 hp hpe hne hve
      by_cases hk0 : k = 0
      · subst hk0
        have HN : Hid (bs (Lib.join ((r.take 1).map prpT) [44]) = bs (Lib.join ((r.take 0).map prpT) [44]) ++ p.name ++ ⟨#[61]⟩ ++ bs (showL p.v)) := by
          have h := HT.out
          rw [Nat.zero_add] at h
          unfold Hid; rw [h, List.take_zero]
          show bs (Lib.join [prpT p] [44]) = bs [] ++ p.name ++ ⟨#[61]⟩ ++ bs (showL p.v)
          rw [join_one, HP.out]
          have e : bs [] ++ p.name = p.name := by conv => lhs; rw [← bs_of p.name]; rw [bs_append, List.nil_append, bs_of]
          rw [e]
        generalize bs (Lib.join ((r.take 0).map prpT) [44]) = J at *
        generalize bs (showL p.v) = V at *
        have z1 : ¬ 9223372036854775807 < J.size + p.name.size := by omega
        have z2 : ¬ 9223372036854775807 < J.size + p.name.size + 1 := by omega
        have z3 : ¬ 9223372036854775807 < J.size + p.name.size + 1 + V.size := by omega
        have hk0' : ¬ (0 : Int) < ((0 : Nat) : Int) := by omega
        rw [Nat.zero_mul, Nat.add_zero] at q0 q1 q2 q3
        have HC0 : Hid (w.cell? ⟨gb, o, none⟩ = some (.string p.name)) := by have h := HC0.out; rw [Nat.zero_mul, Nat.add_zero] at h; exact h
        go_wp2_with fail
        refine hx.mono ?_
        clear hx q1 q2 q3
        rintro e w2 ⟨rfl, hb2⟩
        have hb := hbr.trans (hb2.mono hbr.size)
        have q0 := cell_below hb HC0.out
        clear hbr hb2
        go_wp2_with fail
        go_roundw
        case rel => exact ⟨1, by omega, by go_num, by rw [HN.out], hb⟩
        case measure => simp [intOf]; omega
      · have HN : Hid (bs (Lib.join ((r.take (k + 1)).map prpT) [44]) = bs (Lib.join ((r.take k).map prpT) [44]) ++ ⟨#[44]⟩ ++ p.name ++ ⟨#[61]⟩ ++ bs (showL p.v)) := by
          unfold Hid; rw [HT.out, join_snoc 44 _ _ (by
            intro e
            have := congrArg List.length e
            rw [List.length_map, List.length_take, List.length_nil] at this
            omega)]
          show bs (Lib.join ((r.take k).map prpT) [44] ++ 44 :: prpT p) = bs (Lib.join ((r.take k).map prpT) [44]) ++ bs [44] ++ p.name ++ bs [61] ++ bs (showL p.v)
          conv => rhs; rw [← bs_of p.name]
          rw [bs_append, bs_append, bs_append, bs_append]
          unfold prpT; simp
        generalize bs (Lib.join ((r.take k).map prpT) [44]) = J at *
        generalize bs (showL p.v) = V at *
        have z0 : ¬ 9223372036854775807 < J.size + 1 := by omega
        have z1 : ¬ 9223372036854775807 < J.size + 1 + p.name.size := by omega
        have z2 : ¬ 9223372036854775807 < J.size + 1 + p.name.size + 1 := by omega
        have z3 : ¬ 9223372036854775807 < J.size + 1 + p.name.size + 1 + V.size := by omega
        have hk0' : (0 : Int) < (k : Int) := by omega
        clear hk0
        go_wp2_with fail
        refine hx.mono ?_
        clear hx q1 q2 q3
        rintro e w2 ⟨rfl, hb2⟩
        have hb := hbr.trans (hb2.mono hbr.size)
        have q0 := cell_below hb HC0.out
        clear hbr hb2
        go_wp2_with fail
        go_roundw
        case rel => exact ⟨k + 1, by omega, by go_num, by rw [HN.out], hb⟩
        case measure => simp [intOf]; omega
    · obtain rfl : k = r.length := by omega
      have HN : Hid (bs (recT r) = bs (Lib.join ((r.take r.length).map prpT) [44])) := by unfold Hid; rw [HE.out, List.take_length]
      generalize bs (Lib.join ((r.take r.length).map prpT) [44]) = J at *
      go_wp2_with fail
      go_ret
      exact ⟨by rw [HN.out]; rfl, hbr⟩
open Go

/-- A numeral that is not too long is read as it was written. -/
theorem atoi_back (n : Int) (h : (Lib.trimPrefix (Lib.itoa n) [45]).length ≤ 9) : Lib.atoiAll (Lib.itoa n) = .ok n := by
  refine atoi_itoa ?_
  rcases itoa_cases n with ⟨u, hu, e⟩ | ⟨u, h0, hu, e⟩
  · rw [e, digits_trim] at h
    rw [e]; omega
  · rw [e, minus_trim] at h
    rw [e, List.length_cons]; omega
theorem atoi_range {l : List UInt8} {v : Int} (h : Lib.atoiAll l = .ok v) : I64 v := by
  unfold Lib.atoiAll at h
  unfold I64
  split at h
  · cases h
  · rename_i c r
    simp only at h
    split at h
    · cases h
    · cases h
    · rename_i u hu
      split at h
      · cases h
      · rename_i h1
        split at h
        · cases h
        · rename_i h2
          injection h with h
          by_cases hn : c.toNat = 45
          · rw [if_pos hn] at h
            have : ¬ 9223372036854775808 < u := fun e => h2 ⟨hn, e⟩
            omega
          · rw [if_neg hn] at h
            have : ¬ 9223372036854775808 ≤ u := fun e => h1 ⟨hn, e⟩
            omega
/-- Whether Atoi's number is written so, and is short: the number that is read. -/
theorem int_of_atoi {l : List UInt8} {v : Int} (h : Lib.atoiAll l = .ok v) : intL9 l = if Lib.itoa v = l ∧ (Lib.trimPrefix l [45]).length ≤ 9 then some v else none := by
  split
  · rename_i hc; exact intL9_iff.2 hc
  · rename_i hc
    cases hq : intL9 l with
    | none => rfl
    | some n =>
      obtain ⟨e1, e2⟩ := intL9_iff.1 hq
      have h2 := atoi_back n (by rw [e1]; exact e2)
      rw [e1, h] at h2
      injection h2 with h2
      subst h2
      exact absurd ⟨e1, e2⟩ hc
theorem int_of_bad {l : List UInt8} (h : ∀ v, Lib.atoiAll l ≠ .ok v) : intL9 l = none := by
  cases hq : intL9 l with
  | none => rfl
  | some n =>
    obtain ⟨e1, e2⟩ := intL9_iff.1 hq
    have h2 := atoi_back n (by rw [e1]; exact e2)
    rw [e1] at h2
    exact absurd h2 (h n)
/-- The same for numbers of a few digits. -/
theorem num_of_atoi {l : List UInt8} {v : Int} {m : Nat} (hm : m ≤ 9) (h : Lib.atoiAll l = .ok v) : numL l m = if 0 ≤ v ∧ l.length ≤ m ∧ Lib.itoa v = l then some v.toNat else none := by
  split
  · rename_i hc
    obtain ⟨u, hu⟩ : ∃ u : Nat, v = u := ⟨v.toNat, by omega⟩
    subst hu
    refine numL_iff.2 ⟨?_, hc.2.1⟩
    rw [← hc.2.2, itoa_nat]; simp
  · rename_i hc
    cases hq : numL l m with
    | none => rfl
    | some u =>
      obtain ⟨e1, e2⟩ := numL_iff.1 hq
      have h2 := atoi_back (u : Int) (by rw [itoa_nat, digits_trim, ← e1]; omega)
      rw [itoa_nat, ← e1, h] at h2
      injection h2 with h2
      subst h2
      exact absurd ⟨by omega, e2, by rw [itoa_nat]; exact e1.symm⟩ hc
theorem num_of_bad {l : List UInt8} {m : Nat} (hm : m ≤ 9) (h : ∀ v, Lib.atoiAll l ≠ .ok v) : numL l m = none := by
  cases hq : numL l m with
  | none => rfl
  | some u =>
    obtain ⟨e1, e2⟩ := numL_iff.1 hq
    have h2 := atoi_back (u : Int) (by rw [itoa_nat, digits_trim, ← e1]; omega)
    rw [itoa_nat, ← e1] at h2
    exact absurd h2 (h _)

theorem count_le2 {s : ByteArray} (c : UInt8) : Lib.countB s ⟨#[c]⟩ ≤ s.size + 1 := by
  have h := Lib.count_le s.data.toList [c]
  have e : s.data.toList.length = s.size := by rw [Array.length_toList]; rfl
  show Lib.count s.data.toList [c] ≤ _
  omega
/-- Each quote twice, by the library. -/
theorem doubled_any (s : ByteArray) (w : World) (h : TxP w) (hs : s.size ≤ 4294967280) :
    Calls Tryz.prog 150 #[.string s, .string ⟨#[39]⟩, .string ⟨#[39, 39]⟩] w fun e w' => e = .returned (.string (bs (dbl s.data.toList))) ∧ Below w.heap.size w w' := by
  have hc := count_le2 (s := s) 39
  have h1 : (⟨#[39, 39]⟩ : ByteArray).size = 2 := rfl
  have := tx_replace s ⟨#[39]⟩ ⟨#[39, 39]⟩ w h (by omega) (by decide) (by rw [h1]; omega)
  refine this.mono fun e w' ⟨he, hb⟩ => ⟨?_, hb⟩
  rw [he]
  show Ending.returned (.string (bs (Lib.replaceAll s.data.toList [39] [39, 39]))) = _
  rw [doubled]
theorem two_below (w : World) : Below w.heap.size w (w.alloc (.cells #[.string ⟨#[102, 97, 108, 115, 101]⟩, .string ⟨#[116, 114, 117, 101]⟩] 9)) := (Below.refl _ _).alloc (Nat.le_refl _) _
set_option maxHeartbeats 1000000 in
theorem vprint_any (v : Val) (hv : v.ok) (w : World) (hT : TxP w) :
    Calls Tryz.prog 99 #[.agg #[.int .i64 v.ty, .int .i64 v.n, .string v.s]] w fun e w' => e = .returned (.tuple #[.string (bs (if valE v = 0 then showL v else [])), errV (valE v)]) ∧ Below w.heap.size w w' := by
  obtain ⟨ty, n, s⟩ := v
  have hb0 : Below w.heap.size w (w.alloc (.cells #[.int .i64 ty, .int .i64 n, .string s] 70)) := (Below.refl _ _).alloc (Nat.le_refl _) _
  obtain ⟨x0, x1, x2⟩ := cell_box3 w (.int .i64 ty) (.int .i64 n) (.string s) 70
  have hx := check_any ⟨ty, n, s⟩ hv (w.alloc (.cells #[.int .i64 ty, .int .i64 n, .string s] 70))
  have HT := Lib.hid (hT.below hb0)
  obtain ⟨R, hR⟩ : ∃ R, R = (if valE ⟨ty, n, s⟩ = 0 then showL ⟨ty, n, s⟩ else []) := ⟨_, rfl⟩
  rw [← hR]
  have HR := Lib.hid hR
  have HP : Hid (valE ⟨ty, n, s⟩ = 0 → (ty = 1 ∧ -1000000 ≤ n ∧ n ≤ 1000000 ∧ s = .empty) ∨ (ty = 2 ∧ (n = 0 ∨ n = 1) ∧ s = .empty) ∨ (ty = 3 ∧ n = 0 ∧ s.size ≤ 20 ∧ s.data.toList.any strC = false)) := val_parts
  generalize valE ⟨ty, n, s⟩ = ee at *
  clear hT hR hv
  go_enter Tryz.func99, Tryz.ntmps99
  go_wp2_with fail
  generalize w.alloc (.cells #[.int .i64 ty, .int .i64 n, .string s] 70) = W0 at *
  refine hx.mono ?_
  clear hx
  rintro e w1 ⟨rfl, hb1⟩
  have hB1 := hb0.trans (hb1.mono hb0.size)
  have x0 := cell_below hb1 x0
  have x1 := cell_below hb1 x1
  have x2 := cell_below hb1 x2
  have HT1 := Lib.hid (HT.out.below hb1)
  by_cases hz : ee = 0
  case neg =>
    have HE : Hid (R = []) := by unfold Hid; rw [HR.out, if_neg hz]
    rw [errV_some hz]
    clear HR HP
    go_wp2_with fail
    go_ret2
    exact ⟨by rw [HE.out, errV_some hz]; rfl, hB1⟩
  rw [errV_zero hz]
  have HE : Hid (R = showL ⟨ty, n, s⟩) := by unfold Hid; rw [HR.out, if_pos hz]
  have HZ := Lib.hid hz
  rcases HP.out hz with ⟨rfl, h1, h2, rfl⟩ | ⟨rfl, h1, rfl⟩ | ⟨rfl, rfl, h1, _⟩
  · have hR : Hid (R = Lib.itoa n) := HE
    have hx := tx_itoa n (by omega) (by omega) w1 HT1.out.tab
    clear hz HR HP HE
    go_wp2_with fail
    refine hx.mono ?_
    clear hx
    rintro e w2 ⟨rfl, hb2⟩
    have hB2 := hB1.trans (hb2.mono hB1.size)
    go_wp2_with fail
    go_ret2
    exact ⟨by rw [hR.out, errV_zero HZ.out]; rfl, hB2⟩
  · rcases h1 with rfl | rfl
    · have hR : Hid (R = falseL) := HE
      have y1 := cell_below (two_below w1) x1
      clear hz HR HP HE x1
      go_wp2_with fail
      go_ret2
      exact ⟨by rw [hR.out, errV_zero HZ.out]; rfl, hB1.alloc hB1.size _⟩
    · have hR : Hid (R = trueL) := HE
      have y1 := cell_below (two_below w1) x1
      clear hz HR HP HE x1
      go_wp2_with fail
      go_ret2
      exact ⟨by rw [hR.out, errV_zero HZ.out]; rfl, hB1.alloc hB1.size _⟩
  · have hR : Hid (R = 39 :: (dbl s.data.toList ++ [39])) := HE.out.trans (show_text rfl)
    have hx := doubled_any s w1 HT1.out (by omega)
    have hl := dbl_len2 s.data.toList
    have hle : s.data.toList.length = s.size := by rw [Array.length_toList]; rfl
    have hsz : (bs (dbl s.data.toList)).size ≤ 40 := by rw [bs_size]; omega
    have hXE : Hid ((⟨#[39]⟩ ++ bs (dbl s.data.toList) ++ ⟨#[39]⟩ : ByteArray) = bs (39 :: (dbl s.data.toList ++ [39]))) := by
      unfold Hid
      show bs [39] ++ bs (dbl s.data.toList) ++ bs [39] = _
      rw [bs_append, bs_append]; simp
    generalize bs (dbl s.data.toList) = D at *
    have hc1 : ¬ 9223372036854775807 < 1 + D.size := by omega
    have hc2 : ¬ 9223372036854775807 < 1 + D.size + 1 := by omega
    clear hz HR HP HE hl hle
    go_wp2_with fail
    refine hx.mono ?_
    clear hx
    rintro e w2 ⟨rfl, hb2⟩
    have hB2 := hB1.trans (hb2.mono hB1.size)
    go_wp2_with fail
    go_ret2
    exact ⟨by rw [hR.out, errV_zero HZ.out, ← hXE.out]; rfl, hB2⟩

theorem prp_text (nm : ByteArray) (l : List UInt8) : nm ++ ⟨#[61]⟩ ++ bs l = bs (nm.data.toList ++ 61 :: l) := by
  show nm ++ bs [61] ++ bs l = _
  conv => lhs; rw [← bs_of nm]
  rw [bs_append, bs_append]; simp
set_option maxHeartbeats 4000000 in
theorem rprint_any (r : List Prp) (v : Value) (w : World) (hv : Sl prpL w v r) (hT : TxP w) :
    Calls Tryz.prog 47 #[v] w fun e w' => e = .returned (.tuple #[.string (bs (if recE r = 0 then recT r else [])), errV (recE r)]) ∧ Below w.heap.size w w' := by
  obtain ⟨i0, ei, ez, ez1, ez2⟩ := info_parts str_info
  have hx := recCheck_any r v w hv
  have HV := Lib.hid hv
  have HT := Lib.hid hT
  obtain ⟨A, c, rfl, _, _⟩ := hv.form
  obtain ⟨R, hR⟩ : ∃ R, R = (if recE r = 0 then recT r else []) := ⟨_, rfl⟩
  rw [← hR]
  have HR := Lib.hid hR
  have HOK : Hid (recE r = 0 → r.length ≤ 8 ∧ (∀ p ∈ r, prpE p = 0)) := fun h => ⟨(rec_ok h).1, (rec_ok h).2.1⟩
  have HRL : Hid (recE r = 0 → (recT r).length ≤ 417) := rec_len
  generalize recE r = ee at *
  clear hT hR hv
  go_enter Tryz.func47, Tryz.ntmps47
  go_wp2_with fail
  refine hx.mono ?_
  clear hx
  rintro e w1 ⟨rfl, hb1⟩
  by_cases hz : ee = 0
  case neg =>
    have HE : Hid (R = []) := by unfold Hid; rw [HR.out, if_neg hz]
    rw [errV_some hz]
    clear HR HOK HRL
    go_wp2_with fail
    go_ret2
    exact ⟨by rw [HE.out, errV_some hz]; rfl, hb1⟩
  rw [errV_zero hz]
  have HE : Hid (R = recT r) := by unfold Hid; rw [HR.out, if_pos hz]
  obtain ⟨hl8, hok⟩ := HOK.out hz
  have HP : Hid (∀ p ∈ r, prpE p = 0) := hok
  have hrl := HRL.out hz
  have HL := Lib.hid hrl
  have HZ := Lib.hid hz
  have HV1 := Lib.hid (HV.out.below hb1)
  have HT1 := Lib.hid (HT.out.below hb1)
  clear hz HR HOK HRL hok hrl HV HT
  go_wp2_with fail
  go_loopw [5, 7, 8, 9, 17] (fun x5 _ _ _ i wr => ∃ k : Nat, k ≤ r.length ∧ i = .int .i64 k ∧ Below w1.heap.size w1 wr ∧ Hid (Own wr w1.heap.size 9 1 x5 k (wv ((r.take k).map prpT)))) (fun _ _ _ _ i _ => r.length - (intOf i).toNat)
  case atStart => exact ⟨0, Nat.zero_le _, rfl, Below.refl _ _, Own.nil _ _ _ _⟩
  case round =>
    obtain ⟨k, hk, rfl, hbr, HO⟩ := hrel
    obtain ⟨wo, hwo⟩ : ∃ wo : World, wo = wr := ⟨_, rfl⟩
    subst hwo
    obtain ⟨A5, c5, rfl, hc5, _⟩ := HO.out.form
    by_cases hlt : k < r.length
    · obtain ⟨d, hd⟩ : ∃ d, r[k]? = some d := ⟨_, List.getElem?_eq_getElem hlt⟩
      have hlt' : (k : Int) < (r.length : Int) := by omega
      obtain ⟨gb, o, rfl, hdok, q0, q1, q2, q3⟩ := prp_at (HV1.out.below hbr) hd
      have hpe := HP.out d (List.mem_of_getElem? hd)
      obtain ⟨_, hve⟩ := prp_parts hpe
      have hn8 : d.name.size ≤ 8 := by have := name_len (prp_parts hpe).1; rw [Array.length_toList] at this; exact this
      have HSN : Hid (wv ((r.take (k + 1)).map prpT) = wv ((r.take k).map prpT) ++ [.string (bs (prpT d))]) := by
        unfold Hid wv
        rw [List.take_add_one, hd]; simp
      obtain ⟨nm, ⟨dt, dn, ds⟩⟩ := d
      have ha := (Below.refl wo.heap.size wo).alloc (Nat.le_refl _) (.cells #[.string nm, .int .i64 dt, .int .i64 dn, .string ds] 181)
      have hbk := heap_alloc_new wo (.cells #[.string nm, .int .i64 dt, .int .i64 dn, .string ds] 181)
      have hx := vprint_any ⟨dt, dn, ds⟩ hdok.2 _ ((HT1.out.below hbr).below ha)
      rw [hve, if_pos rfl, errV_zero rfl] at hx
      have hsl := show_len hve
      have hTX : Hid (nm ++ ⟨#[61]⟩ ++ bs (showL ⟨dt, dn, ds⟩) = bs (prpT ⟨nm, dt, dn, ds⟩)) := prp_text _ _
      have hss : (bs (showL ⟨dt, dn, ds⟩)).size ≤ 42 := by rw [bs_size]; exact hsl
      generalize bs (showL ⟨dt, dn, ds⟩) = sh at *
      clear hd hpe hve hdok hsl hk
      go_upto_region 8 with fail
      generalize wo.alloc (.cells #[.string nm, .int .i64 dt, .int .i64 dn, .string ds] 181) = w3 at *
      clear q0 q1 q2 q3
      have z0 := block_cell hbk 0
      have z1 := block_cell hbk 1
      have z2 := block_cell hbk 2
      have z3 := block_cell hbk 3
      go_wp2_with fail
      refine hx.mono ?_
      clear hx
      rintro e w4 ⟨rfl, hb4⟩
      have hb14 := ha.trans (hb4.mono ha.size)
      have z0 := cell_below hb4 z0
      have HO4 := Lib.hid (HO.out.below hb14)
      have hB4 := hbr.trans (hb14.mono hbr.size)
      have hs4 := hB4.size
      have hc1 : ¬ 9223372036854775807 < nm.size + 1 := by omega
      have hc2 : ¬ 9223372036854775807 < nm.size + 1 + sh.size := by omega
      have HOA : Hid (Own (w4.alloc (.cells #[.string (nm ++ ⟨#[61]⟩ ++ sh)] 9)) w1.heap.size 9 1 (.slice A5 k c5) k (wv ((r.take k).map prpT))) := HO4.out.alloc _
      have HN : Hid (∀ j u, ([.string (nm ++ ⟨#[61]⟩ ++ sh)] : List Value)[j]? = some u → (w4.alloc (.cells #[.string (nm ++ ⟨#[61]⟩ ++ sh)] 9)).cell? ⟨w4.heap.size, j, none⟩ = some u) := fun j u hj => by
        rw [World.cell?_alloc_at _ _ _ _ rfl]; simpa using hj
      have hA4 := hB4.alloc hs4 (.cells #[.string (nm ++ ⟨#[61]⟩ ++ sh)] 9)
      clear HO HO4 hb4 hb14 ha z1 z2 z3 hbk hB4
      go_wp2_with (at_builtin; refine wpList_append_q _ rfl (.tmp 30) (.tmp 36) _ rfl w1.heap.size 9 i0 (.string .empty) 1 16 Tryz.underlying58 ei ez ez1 ez2 rfl (by decide) (.slice A5 k c5) k (wv ((r.take k).map prpT)) rfl HOA.out (some ⟨w4.heap.size, 0, none⟩) 1 1 [.string (nm ++ ⟨#[61]⟩ ++ sh)] rfl rfl (fun _ => ⟨_, rfl, fun j u hj => by rw [addr_add, Nat.zero_add]; exact HN.out j u hj⟩) (fun u hu => by simp at hu; subst hu; rfl) (by unfold maxLen; omega) (by omega) (by have := hA4.size; exact this) ?_; intro v9 w9 hown9 hg9 hat9)
      have hB9 : Below w1.heap.size w1 w9 := hA4.grown hg9 hA4.size (fun kk e => (HOA.out.lt kk e).1)
      have HO9 : Hid (Own w9 w1.heap.size 9 1 v9 (k + 1) (wv ((r.take (k + 1)).map prpT))) := by unfold Hid; rw [HSN.out, ← hTX.out]; exact hown9
      clear hg9 hat9 hown9 HOA HN hA4 z0
      go_wp2_with fail
      go_roundw
      case rel => exact ⟨k + 1, by omega, by go_num, hB9, HO9⟩
      case measure => simp [intOf]; omega
    · obtain rfl : k = r.length := by omega
      have HO2 : Hid (Own wo w1.heap.size 9 1 (.slice A5 r.length c5) (r.map prpT).length (wv (r.map prpT))) := by
        have := HO.out
        rw [List.take_length] at this
        unfold Hid; rw [List.length_map]; exact this
      have hB := hb1.trans (hbr.mono hb1.size)
      have hdn : decide (r.length < r.length) = false := by simp
      by_cases h0 : r.length = 0
      · have HE0 : Hid (R = [45]) := by unfold Hid; rw [HE.out]; unfold recT; rw [if_pos h0]
        have h0b : ((r.length : Int) == 0) = true := by rw [h0]; rfl
        clear h0 HE HO HO2 hlt hk
        go_wp2_with fail
        go_ret2
        exact ⟨by rw [HE0.out, errV_zero HZ.out]; rfl, hB⟩
      · have HE0 : Hid (R = Lib.join (r.map prpT) [44]) := by unfold Hid; rw [HE.out]; unfold recT; rw [if_neg h0]
        have h0b : ((r.length : Int) == 0) = false := by rw [beq_eq_false_iff_ne]; omega
        have hlm : (r.map prpT).length = r.length := List.length_map _
        obtain ⟨g9, o9, c9, hv9, _, _⟩ := HO2.out.addr (by omega)
        injection hv9 with e1 e2 e3
        subst e1
        subst e3
        have hx := join_own w1.heap.size wo g9 o9 c5 (r.map prpT) [44] (by have h9 := HO2.out; rw [hlm] at h9 ⊢; exact h9) (by omega) (by omega) (by rw [← HE0.out, HE.out]; have := HL.out; omega)
        rw [hlm, ← HE0.out] at hx
        clear h0 HE HO HO2 hlt hk e2
        go_wp2_with fail
        refine hx.mono ?_
        clear hx
        rintro e w8 ⟨rfl, hb8⟩
        go_wp2_with fail
        go_ret2
        exact ⟨by rw [errV_zero HZ.out]; rfl, hB.trans (hb8.mono hB.size)⟩
end Go.Proofs.YtflidfmpmakggaaGreatDoor
