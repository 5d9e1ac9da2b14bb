/- Parts: SsA. -/
import Derived.Test.YtfeccicogcnhcaaGreatDoorMg10
/- Contract of the reference: kinref1.SchemaText: a schema that is right, as text. Condition: the schema is right. -/
namespace Go.Proofs.YtfeccicogcnhcaaGreatDoor
open Go Go.RowKit

/-- The words of the four types, in their slice at q. -/
def Wds (q : Nat) (w : World) : Prop := w.cell? ⟨q, 1, none⟩ = some (.string (bs (typL 1))) ∧ w.cell? ⟨q, 2, none⟩ = some (.string (bs (typL 2))) ∧ w.cell? ⟨q, 3, none⟩ = some (.string (bs (typL 3)))
theorem Wds.below {q : Nat} {w w' : World} (h : Wds q w) (hb : Below w.heap.size w w') : Wds q w' := ⟨cell_below hb h.1, cell_below hb h.2.1, cell_below hb h.2.2⟩
theorem app_nil (J : ByteArray) : J ++ bs [] = J := by
  rw [← bs_of J, bs_append, List.append_nil]
theorem fld_text32 (J : ByteArray) (f : Fld) (ty : List UInt8) (h : typL f.ty = ty) : J ++ ⟨#[32]⟩ ++ f.name ++ ⟨#[58]⟩ ++ bs ty ++ bs (sgnL f) = J ++ bs (32 :: fldT f) := by
  subst h
  have e : bs (32 :: fldT f) = ⟨#[32]⟩ ++ (f.name ++ ⟨#[58]⟩ ++ bs (typL f.ty) ++ bs (sgnL f)) := by
    rw [fld_text]
    show bs ([32] ++ fldT f) = bs [32] ++ _
    rw [bs_append]; rfl
  rw [e]
  simp only [ByteArray.append_assoc]
set_option maxRecDepth 100000 in
set_option maxHeartbeats 16000000 in
theorem rschemaText_any (s : Scm) (vk vb : Value) (w : World) (hS : ScmR w vk vb s) (hz : (scmE s).2 = 0) :
    Calls Tryz.prog 7 #[.agg #[vk, vb]] w fun e w' => e = .returned (.string (bs (scmT s))) ∧ Below w.heap.size w w' := by
  obtain ⟨A1, c1, rfl, _, _⟩ := hS.1.form
  obtain ⟨A2, c2, rfl, _, _⟩ := hS.2.form
  have HO := Lib.hid (scmE_zero hz)
  have hkl := HO.out.r.len
  have hbl := HO.out.bl
  have hb0 : Below w.heap.size w (w.alloc (.cells #[.slice A1 s.kinds.length c1, .slice A2 s.bonds.length c2] 25)) := (Below.refl _ _).alloc (Nat.le_refl _) _
  obtain ⟨x0, x1⟩ := cell_box2 w (.slice A1 s.kinds.length c1) (.slice A2 s.bonds.length c2) 25
  have HS := Lib.hid (hS.below hb0)
  have HF : Hid (scmT s = s.kinds.flatMap kndT ++ s.bonds.flatMap bndT) := rfl
  clear hS hz
  go_enter Tryz.func7, Tryz.ntmps7
  go_upto_region 1 with fail
  generalize w.alloc (.cells #[.slice A1 s.kinds.length c1, .slice A2 s.bonds.length c2] 25) = W1 at *
  have hb1 : Below W1.heap.size W1 (W1.alloc (.cells #[.string ⟨#[]⟩, .string ⟨#[105, 110, 116]⟩, .string ⟨#[98, 111, 111, 108]⟩, .string ⟨#[116, 101, 120, 116]⟩] 9)) := (Below.refl _ _).alloc (Nat.le_refl _) _
  have hbk := heap_alloc_new W1 (.cells #[.string ⟨#[]⟩, .string ⟨#[105, 110, 116]⟩, .string ⟨#[98, 111, 111, 108]⟩, .string ⟨#[116, 101, 120, 116]⟩] 9)
  have HW : Hid (Wds W1.heap.size (W1.alloc (.cells #[.string ⟨#[]⟩, .string ⟨#[105, 110, 116]⟩, .string ⟨#[98, 111, 111, 108]⟩, .string ⟨#[116, 101, 120, 116]⟩] 9))) := ⟨block_cell hbk 1, block_cell hbk 2, block_cell hbk 3⟩
  have X := Lib.hid (And.intro (cell_below hb1 x0) (cell_below hb1 x1))
  have HS := Lib.hid (HS.out.below hb1)
  have hb0 := hb0.trans (hb1.mono hb0.size)
  clear hbk hb1 x0 x1
  go_upto_region 2 with fail
  generalize W1.alloc (.cells #[.string ⟨#[]⟩, .string ⟨#[105, 110, 116]⟩, .string ⟨#[98, 111, 111, 108]⟩, .string ⟨#[116, 101, 120, 116]⟩] 9) = W0 at *
  generalize W1.heap.size = q at *
  go_wp2_with fail
  go_loopw [4, 5] (fun sv i wr => ∃ k : Nat, k ≤ s.kinds.length ∧ i = .int .i64 k ∧ sv = .string (bs ((s.kinds.take k).flatMap kndT)) ∧ Below W0.heap.size W0 wr) (fun _ i _ => s.kinds.length - (intOf i).toNat)
  case atStart => exact ⟨0, Nat.zero_le _, rfl, by rw [List.take_zero]; rfl, Below.refl _ _⟩
  case round =>
    obtain ⟨k, hk, rfl, rfl, hbr⟩ := hrel
    obtain ⟨wo, hwo⟩ : ∃ wo : World, wo = wr := ⟨_, rfl⟩
    subst hwo
    by_cases hlt : k < s.kinds.length
    · obtain ⟨d, hd⟩ : ∃ d, s.kinds[k]? = some d := ⟨_, List.getElem?_eq_getElem hlt⟩
      have y0 := cell_below hbr X.out.1
      have hlt' : (k : Int) < (s.kinds.length : Int) := by omega
      obtain ⟨gb, o, rfl, u, x, _, hu, hf, q0, q1, q2⟩ := knd_at (HS.out.below hbr).1 hd
      obtain ⟨Au, cu, rfl, _, _⟩ := hu.form
      obtain ⟨Af, cf, rfl, _, _⟩ := hf.form
      have hmem := List.mem_of_getElem? hd
      have hone := HO.out.r.one k d hd
      have hofl := hone.ofl
      have hfll := hone.fll
      have hnl : d.name.size ≤ 8 := by have := name_len hone.nm; rw [Array.length_toList] at this; exact this
      have HFO : Hid (∀ f ∈ d.fields, ∃ q, fldE q f = 0) := fun f h => flds_ok hone.fls f h
      have HOF := Lib.hid (ofs_short HO.out.r hmem)
      have HST : Hid ((s.kinds.take (k + 1)).flatMap kndT = (s.kinds.take k).flatMap kndT ++ kndT d) := by
        unfold Hid; rw [List.take_add_one, hd, List.flatMap_append]; simp
      have hpl : (bs ((s.kinds.take k).flatMap kndT)).size ≤ 12 * 450 := by
        rw [bs_size]
        have h1 := flatMap_len (f := kndT) (m := 450) (l := s.kinds.take k) fun y hy => (line_knd HO.out.r (List.mem_of_mem_take hy)).2
        have h2 : (s.kinds.take k).length ≤ 12 := by rw [List.length_take]; omega
        exact Nat.le_trans h1 (Nat.mul_le_mul h2 (Nat.le_refl _))
      have ha3 : Below wo.heap.size wo (wo.alloc (.cells #[.string d.name, .slice Au d.ofs.length cu, .slice Af d.fields.length cf] 59)) := (Below.refl _ _).alloc (Nat.le_refl _) _
      have HBK := Lib.hid (heap_alloc_new wo (.cells #[.string d.name, .slice Au d.ofs.length cu, .slice Af d.fields.length cf] 59))
      have HU := Lib.hid (hu.below ha3)
      have HFL := Lib.hid (hf.below ha3)
      have hb3 := hbr.trans (ha3.mono hbr.size)
      clear hd hone hmem hu hf ha3
      go_upto_region 7 with fail
      generalize wo.alloc (.cells #[.string d.name, .slice Au d.ofs.length cu, .slice Af d.fields.length cf] 59) = w3 at *
      clear q0 q1 q2 y0
      have z0 := block_cell HBK.out 0
      have HJK : Hid (bs ((s.kinds.take k).flatMap kndT) ++ bs (kndT d) = bs ((s.kinds.take (k + 1)).flatMap kndT)) := by
        unfold Hid; rw [HST.out, bs_append]
      generalize bs ((s.kinds.take k).flatMap kndT) = J0 at *
      have s1 : ¬ 9223372036854775807 < J0.size + 5 := by omega
      have s2 : ¬ 9223372036854775807 < J0.size + 5 + d.name.size := by omega
      go_upto_region 8 with fail
      obtain ⟨J, hJ⟩ : ∃ J, J = J0 ++ ⟨#[107, 105, 110, 100, 32]⟩ ++ d.name := ⟨_, rfl⟩
      have hJs : J.size ≤ 12 * 450 + 13 := by
        rw [hJ, ByteArray.size_append, ByteArray.size_append]
        have : (⟨#[107, 105, 110, 100, 32]⟩ : ByteArray).size = 5 := rfl
        omega
      rw [← hJ]
      have HJ := Lib.hid hJ
      clear hJ z0 s1 s2 hpl
      go_wp2_with fail
      go_loopw [4, 7] (fun sv i wr => ∃ j : Nat, j ≤ d.ofs.length ∧ i = .int .i64 j ∧ sv = .string (J ++ bs (ofT ((d.ofs.take j).map (·.data.toList)))) ∧ wr = w3) (fun _ i _ => d.ofs.length - (intOf i).toNat)
      case atStart => exact ⟨0, Nat.zero_le _, rfl, by rw [List.take_zero]; exact (congrArg Value.string (app_nil J)).symm, rfl⟩
      case round =>
        obtain ⟨j, hj, rfl, rfl, hw3⟩ := hrel
        subst hw3
        obtain ⟨w3, hw3⟩ : ∃ x : World, x = wr := ⟨_, rfl⟩
        subst hw3
        have z1 := block_cell HBK.out 1
        by_cases hlj : j < d.ofs.length
        · obtain ⟨f, hf⟩ : ∃ f, d.ofs[j]? = some f := ⟨_, List.getElem?_eq_getElem hlj⟩
          have hlj' : (j : Int) < (d.ofs.length : Int) := by omega
          obtain ⟨bf, of, rfl, _, q0⟩ := str_at HU.out hf
          have hfs : f.size ≤ 8 := by have := HOF.out f (List.mem_of_getElem? hf); rw [Array.length_toList] at this; exact this
          have hol : (bs (ofT ((d.ofs.take j).map (·.data.toList)))).size ≤ 4 + 12 * 9 := by
            rw [bs_size]
            have h1 := ofT_len (l := (d.ofs.take j).map (·.data.toList)) (fun x hx => by
              obtain ⟨y, hy, rfl⟩ := List.mem_map.1 hx
              exact HOF.out y (List.mem_of_mem_take hy))
            rw [List.length_map, List.length_take] at h1
            omega
          have HST2 : Hid (ofT ((d.ofs.take (j + 1)).map (·.data.toList)) = ofT ((d.ofs.take j).map (·.data.toList)) ++ (if j = 0 then [32, 111, 102, 32] else [44]) ++ f.data.toList) := by
            unfold Hid
            rw [List.take_add_one, hf, List.map_append]
            have e : ((some f : Option ByteArray).toList.map (·.data.toList)) = [f.data.toList] := rfl
            rw [e, ofT_step]
            congr 2
            by_cases h0 : j = 0
            · subst h0; rfl
            · rw [if_neg h0, if_neg]
              intro hn
              rw [List.map_eq_nil_iff, List.take_eq_nil_iff] at hn
              rcases hn with hn | hn
              · exact h0 hn
              · rw [hn] at hlj; exact absurd hlj (by simp)
          generalize ofT ((d.ofs.take j).map (·.data.toList)) = O at *
          have hJO : (J ++ bs O).size ≤ 12 * 450 + 13 + 4 + 12 * 9 := by rw [ByteArray.size_append]; omega
          obtain ⟨JO, hJO2⟩ : ∃ x, x = J ++ bs O := ⟨_, rfl⟩
          rw [← hJO2] at hJO ⊢
          have HJO := Lib.hid hJO2
          clear hf hol hJO2
          by_cases h0 : j = 0
          · subst h0
            rw [Nat.add_zero] at q0
            have HTX : Hid (JO ++ ⟨#[32, 111, 102, 32]⟩ ++ f = J ++ bs (ofT ((d.ofs.take (0 + 1)).map (·.data.toList)))) := by
              unfold Hid
              rw [HST2.out, HJO.out, if_pos rfl, ← bs_append, ← bs_append, bs_of]
              simp only [ByteArray.append_assoc]; rfl
            have t1 : ¬ 9223372036854775807 < JO.size + 4 := by omega
            have t2 : ¬ 9223372036854775807 < JO.size + 4 + f.size := by omega
            clear HST2 HJO
            go_wp2_with fail
            go_roundw
            case rel => exact ⟨0 + 1, by omega, by go_num, by rw [HTX.out], by simp⟩
            case measure => simp [intOf]; omega
          · have h0b : ((j : Int) == 0) = false := by rw [beq_eq_false_iff_ne]; omega
            have h0p : ¬ (j : Int) = 0 := by omega
            have HTX : Hid (JO ++ ⟨#[44]⟩ ++ f = J ++ bs (ofT ((d.ofs.take (j + 1)).map (·.data.toList)))) := by
              unfold Hid
              rw [HST2.out, HJO.out, if_neg h0, ← bs_append, ← bs_append, bs_of]
              simp only [ByteArray.append_assoc]; rfl
            have t1 : ¬ 9223372036854775807 < JO.size + 1 := by omega
            have t2 : ¬ 9223372036854775807 < JO.size + 1 + f.size := by omega
            clear HST2 HJO h0
            go_wp2_with fail
            go_roundw
            case rel => exact ⟨j + 1, by omega, by go_num, by rw [HTX.out], by simp⟩
            case measure => simp [intOf]; omega
        · obtain rfl : j = d.ofs.length := by omega
          have hol : (bs (ofT ((d.ofs.take d.ofs.length).map (·.data.toList)))).size ≤ 4 + 12 * 9 := by
            rw [bs_size, List.take_length]
            have h1 := ofT_len (l := d.ofs.map (·.data.toList)) (fun x hx => by
              obtain ⟨y, hy, rfl⟩ := List.mem_map.1 hx
              exact HOF.out y hy)
            rw [List.length_map] at h1
            omega
          obtain ⟨J2, hJ2⟩ : ∃ x, x = J ++ bs (ofT ((d.ofs.take d.ofs.length).map (·.data.toList))) := ⟨_, rfl⟩
          rw [← hJ2]
          have hJ2s : J2.size ≤ 12 * 450 + 13 + 4 + 12 * 9 := by rw [hJ2, ByteArray.size_append]; omega
          have HKT : Hid (J2 ++ bs ((d.fields.flatMap fun f => 32 :: fldT f) ++ [10]) = bs ((s.kinds.take (k + 1)).flatMap kndT)) := by
            unfold Hid
            rw [← HJK.out, kndT_parts, hJ2, HJ.out, List.take_length]
            simp only [← bs_append, bs_of, ByteArray.append_assoc]; rfl
          clear hol hJ2 HJ HJK hJs hlj hj
          go_wp2_with fail
          clear z1
          go_loopw [4, 8] (fun sv i wr => ∃ j : Nat, j ≤ d.fields.length ∧ i = .int .i64 j ∧ sv = .string (J2 ++ bs ((d.fields.take j).flatMap fun f => 32 :: fldT f)) ∧ Below w3.heap.size w3 wr) (fun _ i _ => d.fields.length - (intOf i).toNat)
          case atStart => exact ⟨0, Nat.zero_le _, rfl, by rw [List.take_zero]; exact (congrArg Value.string (app_nil J2)).symm, Below.refl _ _⟩
          case round =>
            obtain ⟨j, hj, rfl, rfl, hbw⟩ := hrel
            obtain ⟨w4, hw4⟩ : ∃ x : World, x = wr := ⟨_, rfl⟩
            subst hw4
            have z2 := cell_below hbw (block_cell HBK.out 2)
            have hJT : (J2 ++ bs ((d.fields.take j).flatMap fun f => 32 :: fldT f)).size ≤ 12 * 450 + 13 + 4 + 12 * 9 + 15 * 15 := by
              rw [ByteArray.size_append, bs_size]
              have h1 := fldsT_len (l := d.fields.take j) fun f h => HFO.out f (List.mem_of_mem_take h)
              rw [List.length_take] at h1
              omega
            by_cases hlj : j < d.fields.length
            · obtain ⟨f, hf⟩ : ∃ f, d.fields[j]? = some f := ⟨_, List.getElem?_eq_getElem hlj⟩
              have hlj' : (j : Int) < (d.fields.length : Int) := by omega
              obtain ⟨fname, fty, fmust, fkey⟩ := f
              obtain ⟨bf, of, rfl, hfok, q0, q1, q2, q3⟩ := fld_at (HFL.out.below hbw) hf
              obtain ⟨qf, hqf⟩ := HFO.out ⟨fname, fty, fmust, fkey⟩ (List.mem_of_getElem? hf)
              have hty := (fld_parts hqf).2
              have hnm := (fld_parts hqf).1
              have hfs : fname.size ≤ 8 := by have := name_len hnm; rw [Array.length_toList] at this; exact this
              have HST3 : Hid (((d.fields.take (j + 1)).flatMap fun f => 32 :: fldT f) = ((d.fields.take j).flatMap fun f => 32 :: fldT f) ++ (32 :: fldT ⟨fname, fty, fmust, fkey⟩)) := by
                unfold Hid; rw [List.take_add_one, hf, List.flatMap_append]; simp
              have hab : Below w4.heap.size w4 (w4.alloc (.cells #[.string fname, .int .i64 fty, .bool fmust, .bool fkey] 61)) := (Below.refl _ _).alloc (Nat.le_refl _) _
              have hbf := heap_alloc_new w4 (.cells #[.string fname, .int .i64 fty, .bool fmust, .bool fkey] 61)
              have hbb := hbw.trans (hab.mono hbw.size)
              obtain ⟨t1, t2, t3⟩ := HW.out.below (hb3.trans (hbb.mono hb3.size))
              clear hf hfok hqf hab
              go_upto_region 19 with fail
              generalize w4.alloc (.cells #[.string fname, .int .i64 fty, .bool fmust, .bool fkey] 61) = wb at *
              have f0 := block_cell hbf 0
              have f1 := block_cell hbf 1
              have f2 := block_cell hbf 2
              have f3 := block_cell hbf 3
              clear q0 q1 q2 q3 hbf z2
              obtain ⟨J, hJ⟩ : ∃ x, x = J2 ++ bs ((d.fields.take j).flatMap fun f => 32 :: fldT f) := ⟨_, rfl⟩
              rw [← hJ] at hJT ⊢
              have HJ := Lib.hid hJ
              clear hJ
              have hty3 : fty = 1 ∨ fty = 2 ∨ fty = 3 := by
                unfold tyB at hty
                simp at hty
                omega
              clear hty
              rcases hty3 with ht | ht | ht
              · subst ht
                -- a field's text: 1: its type
                have ht4 : (bs (typL 1)).size ≤ 4 := by rw [bs_size]; exact typ_len _
                have s1 : ¬ 9223372036854775807 < J.size + 1 := by omega
                have s2 : ¬ 9223372036854775807 < J.size + 1 + fname.size := by omega
                have s3 : ¬ 9223372036854775807 < J.size + 1 + fname.size + 1 := by omega
                have s4 : ¬ 9223372036854775807 < J.size + 1 + fname.size + 1 + (bs (typL 1)).size := by omega
                have s5 : ¬ 9223372036854775807 < J.size + 1 + fname.size + 1 + (bs (typL 1)).size + 1 := by omega
                have HTX : Hid (J ++ ⟨#[32]⟩ ++ fname ++ ⟨#[58]⟩ ++ bs (typL 1) ++ bs (sgnL ⟨fname, 1, fmust, fkey⟩) = J2 ++ bs ((d.fields.take (j + 1)).flatMap fun f => 32 :: fldT f)) := by
                  unfold Hid
                  rw [HST3.out, ← bs_append, ← ByteArray.append_assoc, ← HJ.out]
                  exact fld_text32 _ ⟨fname, 1, fmust, fkey⟩ _ rfl
                clear ht4 HST3 HJ
                go_quiet (fail)
                cases fkey with
                | true =>
                  have HT2 : Hid (J ++ ⟨#[32]⟩ ++ fname ++ ⟨#[58]⟩ ++ bs (typL 1) ++ ⟨#[42]⟩ = J2 ++ bs ((d.fields.take (j + 1)).flatMap fun f => 32 :: fldT f)) := HTX.out
                  clear HTX
                  go_wp2_with fail
                  go_roundw
                  case rel => exact ⟨j + 1, by omega, by go_num, by rw [HT2.out], Go.below_drewN hbb _⟩
                  case measure => simp [intOf]; omega
                | false =>
                  cases fmust with
                  | true =>
                    have HT2 : Hid (J ++ ⟨#[32]⟩ ++ fname ++ ⟨#[58]⟩ ++ bs (typL 1) ++ ⟨#[33]⟩ = J2 ++ bs ((d.fields.take (j + 1)).flatMap fun f => 32 :: fldT f)) := HTX.out
                    clear HTX
                    go_wp2_with fail
                    go_roundw
                    case rel => exact ⟨j + 1, by omega, by go_num, by rw [HT2.out], Go.below_drewN hbb _⟩
                    case measure => simp [intOf]; omega
                  | false =>
                    have HT2 : Hid (J ++ ⟨#[32]⟩ ++ fname ++ ⟨#[58]⟩ ++ bs (typL 1) = J2 ++ bs ((d.fields.take (j + 1)).flatMap fun f => 32 :: fldT f)) := ((app_nil _).symm.trans HTX.out :)
                    clear HTX
                    go_wp2_with fail
                    go_roundw
                    case rel => exact ⟨j + 1, by omega, by go_num, by rw [HT2.out], Go.below_drewN hbb _⟩
                    case measure => simp [intOf]; omega
              · subst ht
                -- a field's text: 2: its type
                have ht4 : (bs (typL 2)).size ≤ 4 := by rw [bs_size]; exact typ_len _
                have s1 : ¬ 9223372036854775807 < J.size + 1 := by omega
                have s2 : ¬ 9223372036854775807 < J.size + 1 + fname.size := by omega
                have s3 : ¬ 9223372036854775807 < J.size + 1 + fname.size + 1 := by omega
                have s4 : ¬ 9223372036854775807 < J.size + 1 + fname.size + 1 + (bs (typL 2)).size := by omega
                have s5 : ¬ 9223372036854775807 < J.size + 1 + fname.size + 1 + (bs (typL 2)).size + 1 := by omega
                have HTX : Hid (J ++ ⟨#[32]⟩ ++ fname ++ ⟨#[58]⟩ ++ bs (typL 2) ++ bs (sgnL ⟨fname, 2, fmust, fkey⟩) = J2 ++ bs ((d.fields.take (j + 1)).flatMap fun f => 32 :: fldT f)) := by
                  unfold Hid
                  rw [HST3.out, ← bs_append, ← ByteArray.append_assoc, ← HJ.out]
                  exact fld_text32 _ ⟨fname, 2, fmust, fkey⟩ _ rfl
                clear ht4 HST3 HJ
                go_quiet (fail)
                cases fkey with
                | true =>
                  have HT2 : Hid (J ++ ⟨#[32]⟩ ++ fname ++ ⟨#[58]⟩ ++ bs (typL 2) ++ ⟨#[42]⟩ = J2 ++ bs ((d.fields.take (j + 1)).flatMap fun f => 32 :: fldT f)) := HTX.out
                  clear HTX
                  go_wp2_with fail
                  go_roundw
                  case rel => exact ⟨j + 1, by omega, by go_num, by rw [HT2.out], Go.below_drewN hbb _⟩
                  case measure => simp [intOf]; omega
                | false =>
                  cases fmust with
                  | true =>
                    have HT2 : Hid (J ++ ⟨#[32]⟩ ++ fname ++ ⟨#[58]⟩ ++ bs (typL 2) ++ ⟨#[33]⟩ = J2 ++ bs ((d.fields.take (j + 1)).flatMap fun f => 32 :: fldT f)) := HTX.out
                    clear HTX
                    go_wp2_with fail
                    go_roundw
                    case rel => exact ⟨j + 1, by omega, by go_num, by rw [HT2.out], Go.below_drewN hbb _⟩
                    case measure => simp [intOf]; omega
                  | false =>
                    have HT2 : Hid (J ++ ⟨#[32]⟩ ++ fname ++ ⟨#[58]⟩ ++ bs (typL 2) = J2 ++ bs ((d.fields.take (j + 1)).flatMap fun f => 32 :: fldT f)) := ((app_nil _).symm.trans HTX.out :)
                    clear HTX
                    go_wp2_with fail
                    go_roundw
                    case rel => exact ⟨j + 1, by omega, by go_num, by rw [HT2.out], Go.below_drewN hbb _⟩
                    case measure => simp [intOf]; omega
              · subst ht
                -- a field's text: 3: its type
                have ht4 : (bs (typL 3)).size ≤ 4 := by rw [bs_size]; exact typ_len _
                have s1 : ¬ 9223372036854775807 < J.size + 1 := by omega
                have s2 : ¬ 9223372036854775807 < J.size + 1 + fname.size := by omega
                have s3 : ¬ 9223372036854775807 < J.size + 1 + fname.size + 1 := by omega
                have s4 : ¬ 9223372036854775807 < J.size + 1 + fname.size + 1 + (bs (typL 3)).size := by omega
                have s5 : ¬ 9223372036854775807 < J.size + 1 + fname.size + 1 + (bs (typL 3)).size + 1 := by omega
                have HTX : Hid (J ++ ⟨#[32]⟩ ++ fname ++ ⟨#[58]⟩ ++ bs (typL 3) ++ bs (sgnL ⟨fname, 3, fmust, fkey⟩) = J2 ++ bs ((d.fields.take (j + 1)).flatMap fun f => 32 :: fldT f)) := by
                  unfold Hid
                  rw [HST3.out, ← bs_append, ← ByteArray.append_assoc, ← HJ.out]
                  exact fld_text32 _ ⟨fname, 3, fmust, fkey⟩ _ rfl
                clear ht4 HST3 HJ
                go_quiet (fail)
                cases fkey with
                | true =>
                  have HT2 : Hid (J ++ ⟨#[32]⟩ ++ fname ++ ⟨#[58]⟩ ++ bs (typL 3) ++ ⟨#[42]⟩ = J2 ++ bs ((d.fields.take (j + 1)).flatMap fun f => 32 :: fldT f)) := HTX.out
                  clear HTX
                  go_wp2_with fail
                  go_roundw
                  case rel => exact ⟨j + 1, by omega, by go_num, by rw [HT2.out], Go.below_drewN hbb _⟩
                  case measure => simp [intOf]; omega
                | false =>
                  cases fmust with
                  | true =>
                    have HT2 : Hid (J ++ ⟨#[32]⟩ ++ fname ++ ⟨#[58]⟩ ++ bs (typL 3) ++ ⟨#[33]⟩ = J2 ++ bs ((d.fields.take (j + 1)).flatMap fun f => 32 :: fldT f)) := HTX.out
                    clear HTX
                    go_wp2_with fail
                    go_roundw
                    case rel => exact ⟨j + 1, by omega, by go_num, by rw [HT2.out], Go.below_drewN hbb _⟩
                    case measure => simp [intOf]; omega
                  | false =>
                    have HT2 : Hid (J ++ ⟨#[32]⟩ ++ fname ++ ⟨#[58]⟩ ++ bs (typL 3) = J2 ++ bs ((d.fields.take (j + 1)).flatMap fun f => 32 :: fldT f)) := ((app_nil _).symm.trans HTX.out :)
                    clear HTX
                    go_wp2_with fail
                    go_roundw
                    case rel => exact ⟨j + 1, by omega, by go_num, by rw [HT2.out], Go.below_drewN hbb _⟩
                    case measure => simp [intOf]; omega
            · obtain rfl : j = d.fields.length := by omega
              have HTX : Hid (J2 ++ bs ((d.fields.take d.fields.length).flatMap fun f => 32 :: fldT f) ++ ⟨#[10]⟩ = bs ((s.kinds.take (k + 1)).flatMap kndT)) := by
                unfold Hid; rw [← HKT.out, List.take_length, ← bs_append, ← ByteArray.append_assoc]; rfl
              generalize J2 ++ bs ((d.fields.take d.fields.length).flatMap fun f => 32 :: fldT f) = J at *
              have s1 : ¬ 9223372036854775807 < J.size + 1 := by omega
              go_wp2_with fail
              go_roundw
              case rel => exact ⟨k + 1, by omega, by go_num, by rw [HTX.out], hb3.trans (hbw.mono hb3.size)⟩
              case measure => simp [intOf]; omega
    · obtain rfl : k = s.kinds.length := by omega
      have HN : Hid (bs ((s.kinds.take s.kinds.length).flatMap kndT) = bs (s.kinds.flatMap kndT)) := by unfold Hid; rw [List.take_length]
      rw [HN.out]
      have y0 := cell_below hbr X.out.1
      have hnz : (bs (s.kinds.flatMap kndT)).size ≤ 12 * 450 := by
        rw [bs_size]
        have h1 := flatMap_len (f := kndT) (m := 450) (l := s.kinds) fun y hy => (line_knd HO.out.r hy).2
        exact Nat.le_trans h1 (Nat.mul_le_mul hkl (Nat.le_refl _))
      obtain ⟨K, hK⟩ : ∃ K, K = s.kinds.flatMap kndT := ⟨_, rfl⟩
      rw [← hK] at hnz HF ⊢
      clear hlt hk HN hK
      go_wp2_with fail
      clear y0
      go_loopw [4, 10] (fun sv i wr => ∃ k : Nat, k ≤ s.bonds.length ∧ i = .int .i64 k ∧ sv = .string (bs (K ++ (s.bonds.take k).flatMap bndT)) ∧ Below W0.heap.size W0 wr) (fun _ i _ => s.bonds.length - (intOf i).toNat)
      case atStart => exact ⟨0, Nat.zero_le _, rfl, by rw [List.take_zero]; simp, hbr⟩
      case round =>
        clear hbr
        obtain ⟨k, hk, rfl, rfl, hbr⟩ := hrel
        obtain ⟨w5, hw5⟩ : ∃ wo : World, wo = wr := ⟨_, rfl⟩
        subst hw5
        have y1 := cell_below hbr X.out.2
        have hsz : (bs (K ++ (s.bonds.take k).flatMap bndT)).size ≤ 12 * 450 + 12 * 450 := by
          rw [bs_size] at hnz ⊢
          rw [List.length_append]
          have h1 := flatMap_len (f := bndT) (m := 450) (l := s.bonds.take k) fun y hy => (line_bnd HO.out (List.mem_of_mem_take hy)).2
          have h2 : (s.bonds.take k).length ≤ 12 := by rw [List.length_take]; omega
          have h3 := Nat.le_trans h1 (Nat.mul_le_mul h2 (Nat.le_refl 450))
          omega
        by_cases hlt : k < s.bonds.length
        · obtain ⟨d, hd⟩ : ∃ d, s.bonds[k]? = some d := ⟨_, List.getElem?_eq_getElem hlt⟩
          have hlt' : (k : Int) < (s.bonds.length : Int) := by omega
          obtain ⟨gb, o, rfl, _, q0, q1, q2, q3, q4⟩ := bnd_at (HS.out.below hbr).2 hd
          have hrng := (HO.out.b k d hd).rng
          have hwl := bnd_words HO.out (List.mem_of_getElem? hd)
          obtain ⟨bn, bsrc, bdst, mn, mx⟩ := d
          unfold rngB at hrng
          simp only at hrng q0 q1 q2 q3 q4
          have n1 : bn.size ≤ 10 := by have := (hwl bn.data.toList (by simp [bndWords])).2; rw [Array.length_toList] at this; exact this
          have n2 : bsrc.size ≤ 10 := by have := (hwl bsrc.data.toList (by simp [bndWords])).2; rw [Array.length_toList] at this; exact this
          have n3 : bdst.size ≤ 10 := by have := (hwl bdst.data.toList (by simp [bndWords])).2; rw [Array.length_toList] at this; exact this
          have n4 : (bs (Lib.itoa mn)).size ≤ 10 := by rw [bs_size]; exact (hwl (Lib.itoa mn) (by simp [bndWords])).2
          have n5 : (bs (topL ⟨bn, bsrc, bdst, mn, mx⟩)).size ≤ 10 := by rw [bs_size]; exact (hwl (topL ⟨bn, bsrc, bdst, mn, mx⟩) (by simp [bndWords])).2
          have HTT : Hid (bs (K ++ (s.bonds.take (k + 1)).flatMap bndT) = bs (K ++ (s.bonds.take k).flatMap bndT) ++ ⟨#[98, 111, 110, 100, 32]⟩ ++ bn ++ ⟨#[32]⟩ ++ bsrc ++ ⟨#[32]⟩ ++ bdst ++ ⟨#[32]⟩ ++ bs (Lib.itoa mn) ++ ⟨#[32]⟩ ++ bs (topL ⟨bn, bsrc, bdst, mn, mx⟩) ++ ⟨#[10]⟩) := by
            unfold Hid
            have e : (s.bonds.take (k + 1)).flatMap bndT = (s.bonds.take k).flatMap bndT ++ bndT ⟨bn, bsrc, bdst, mn, mx⟩ := by rw [List.take_add_one, hd, List.flatMap_append]; simp
            rw [e, bndT_parts]
            simp only [← bs_append, bs_of, ByteArray.append_assoc]; rfl
          have ha3 : Below w5.heap.size w5 (w5.alloc (.cells #[.string bn, .string bsrc, .string bdst, .int .i64 mn, .int .i64 mx] 40)) := (Below.refl _ _).alloc (Nat.le_refl _) _
          have HBK := Lib.hid (heap_alloc_new w5 (.cells #[.string bn, .string bsrc, .string bdst, .int .i64 mn, .int .i64 mx] 40))
          have hx := dig_any mn ⟨by omega, by omega⟩ (w5.alloc (.cells #[.string bn, .string bsrc, .string bdst, .int .i64 mn, .int .i64 mx] 40))
          have HX2 := Lib.hid (fun wx => dig_any mx ⟨by omega, by omega⟩ wx)
          have hb6 := hbr.trans (ha3.mono hbr.size)
          have HTP : Hid (topL ⟨bn, bsrc, bdst, mn, mx⟩ = if 0 ≤ mx then Lib.itoa mx else [97, 110, 121]) := rfl
          generalize topL ⟨bn, bsrc, bdst, mn, mx⟩ = tp at *
          clear hd hwl ha3
          go_upto_region 29 with fail
          generalize w5.alloc (.cells #[.string bn, .string bsrc, .string bdst, .int .i64 mn, .int .i64 mx] 40) = w6 at *
          clear q0 q1 q2 q3 q4 y1
          have z3 := block_cell HBK.out 3
          go_wp2_with fail
          refine hx.mono ?_
          clear hx z3
          rintro e w7 ⟨rfl, hb⟩
          have hb7 := hb6.trans (hb.mono hb6.size)
          have HBK := Lib.hid ((hb.block _ (Array.getElem?_eq_some_iff.1 HBK.out).1).trans HBK.out)
          clear hb
          have z4 := block_cell HBK.out 4
          go_upto_if 103 with fail
          go_cut [13] (fun v wx => v = .string (bs tp) ∧ Below w7.heap.size w7 wx)
          case first =>
            by_cases h0 : 0 ≤ mx
            · have h0d : decide (0 ≤ mx) = true := decide_eq_true h0
              have hE : Hid (tp = Lib.itoa mx) := by unfold Hid; rw [HTP.out, if_pos h0]
              have hx := HX2.out w7
              go_wp2_with fail
              refine hx.mono ?_
              clear hx
              rintro e w8 ⟨rfl, hb⟩
              go_wp2_with fail
              go_meet
              exact ⟨by rw [hE.out], hb⟩
            · have h0d : decide (0 ≤ mx) = false := decide_eq_false h0
              have hE : Hid (tp = [97, 110, 121]) := by unfold Hid; rw [HTP.out, if_neg h0]
              go_wp2_with fail
              go_meet
              exact ⟨by rw [hE.out]; rfl, Below.refl _ _⟩
          case rest =>
          obtain ⟨w8, hw8⟩ : ∃ x : World, x = wc := ⟨_, rfl⟩
          subst hw8
          obtain ⟨rfl, hb⟩ := hcut
          have hb8 := hb7.trans (hb.mono hb7.size)
          have HBK := Lib.hid ((hb.block _ (Array.getElem?_eq_some_iff.1 HBK.out).1).trans HBK.out)
          clear hb z4 HTP HX2
          have z0 := block_cell HBK.out 0
          have z1 := block_cell HBK.out 1
          have z2 := block_cell HBK.out 2
          generalize bs (K ++ (s.bonds.take k).flatMap bndT) = J at *
          generalize bs (Lib.itoa mn) = I at *
          generalize bs tp = M at *
          have s1 : ¬ 9223372036854775807 < J.size + 5 := by omega
          have s2 : ¬ 9223372036854775807 < J.size + 5 + bn.size := by omega
          have s3 : ¬ 9223372036854775807 < J.size + 5 + bn.size + 1 := by omega
          have s4 : ¬ 9223372036854775807 < J.size + 5 + bn.size + 1 + bsrc.size := by omega
          have s5 : ¬ 9223372036854775807 < J.size + 5 + bn.size + 1 + bsrc.size + 1 := by omega
          have s6 : ¬ 9223372036854775807 < J.size + 5 + bn.size + 1 + bsrc.size + 1 + bdst.size := by omega
          have s7 : ¬ 9223372036854775807 < J.size + 5 + bn.size + 1 + bsrc.size + 1 + bdst.size + 1 := by omega
          have s8 : ¬ 9223372036854775807 < J.size + 5 + bn.size + 1 + bsrc.size + 1 + bdst.size + 1 + I.size := by omega
          have s9 : ¬ 9223372036854775807 < J.size + 5 + bn.size + 1 + bsrc.size + 1 + bdst.size + 1 + I.size + 1 := by omega
          have s10 : ¬ 9223372036854775807 < J.size + 5 + bn.size + 1 + bsrc.size + 1 + bdst.size + 1 + I.size + 1 + M.size := by omega
          have s11 : ¬ 9223372036854775807 < J.size + 5 + bn.size + 1 + bsrc.size + 1 + bdst.size + 1 + I.size + 1 + M.size + 1 := by omega
          clear hbr hb6 hb7 hrng
          go_wp2_with fail
          go_roundw
          case rel => exact ⟨k + 1, by omega, by go_num, by rw [HTT.out], hb8⟩
          case measure => simp [intOf]; omega
        · obtain rfl : k = s.bonds.length := by omega
          have HN : Hid (bs (scmT s) = bs (K ++ (s.bonds.take s.bonds.length).flatMap bndT)) := by unfold Hid; rw [HF.out, List.take_length]
          generalize bs (K ++ (s.bonds.take s.bonds.length).flatMap bndT) = J at *
          go_wp2_with fail
          go_ret
          exact ⟨by rw [HN.out]; rfl, hb0.trans (hbr.mono hb0.size)⟩
end Go.Proofs.YtfeccicogcnhcaaGreatDoor
