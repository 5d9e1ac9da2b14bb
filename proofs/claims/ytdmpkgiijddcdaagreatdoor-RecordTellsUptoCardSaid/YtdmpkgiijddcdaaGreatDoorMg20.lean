/- Parts: RrA. -/
import Derived.Test.YtdmpkgiijddcdaaGreatDoorMg14
import Derived.Test.YtdmpkgiijddcdaaGreatDoorMg17
import Derived.Test.YtdmpkgiijddcdaaGreatDoorMg19
import Derived.Test.YtdmpkgiijddcdaaGreatDoorMg13
import Derived.Test.YtdmpkgiijddcdaaGreatDoorMg16
/- Contract of the reference: kinref1.ReadRecord: a text as a record. Condition: the text is not too long. -/
namespace Go.Proofs.YtdmpkgiijddcdaaGreatDoor
open Go Go.RowKit


theorem noB_step {c : UInt8} {l : List UInt8} {k : Nat} {x : UInt8} (h : noB c (l.take k)) (hx : l[k]? = some x) (hne : x ≠ c) : noB c (l.take (k + 1)) := by
  rw [take_next hx]
  intro y hy
  rcases List.mem_append.1 hy with h1 | h1
  · exact h y h1
  · rw [List.mem_singleton.1 h1]; exact hne
theorem cut_at {c : UInt8} {l : List UInt8} {k : Nat} (h : noB c (l.take k)) (hx : l[k]? = some c) : Lib.cut l [c] = (l.take k, l.drop (k + 1), true) := by
  have e : l = l.take k ++ c :: l.drop (k + 1) := by
    conv => lhs; rw [← List.take_append_drop k l, drop_cons_of hx]
  conv => lhs; rw [e]
  exact cut_sign h
theorem cut_none {c : UInt8} {l : List UInt8} (h : noB c (l.take l.length)) : Lib.cut l [c] = (l, [], false) := by
  rw [List.take_length] at h; exact cut_no h
theorem readV_ok2 {l : List UInt8} (h : readE l = 0) : (readV l).ok := val_ok (show_read h).1
set_option maxRecDepth 100000 in
set_option maxHeartbeats 16000000 in
theorem rreadRec_any (s : ByteArray) (hs : Sm s) (w : World) :
    Calls Tryz.prog 34 #[.string s] w fun e w' => ∃ A k, e = .returned (.tuple #[.slice A (readRV s.data.toList).length k, .int .i64 (readRE s.data.toList)]) ∧ OwnP w' w.heap.size (.slice A (readRV s.data.toList).length k) (readRV s.data.toList) ∧ Below w.heap.size w w' := by
  obtain ⟨i0, ei, ez, ez1, ez2⟩ := info_parts prpT_info
  have hle := len_size s
  have e1 : (bs [45]).toList = [45] := by decide +kernel
  by_cases h1 : s = bs [45]
  · have HN : Hid (readRE s.data.toList = 0 ∧ readRV s.data.toList = []) := by
      unfold Hid; rw [h1, bs_list]; exact ⟨rfl, rfl⟩
    have h2 : s.toList = [45] := by rw [h1]; exact e1
    clear h1 e1 hle hs
    go_enter Tryz.func34, Tryz.ntmps34
    -- the answer: no record, the fault 0; above w: Below.refl _ _
    go_wp2_with fail
    go_ret2
    exact ⟨none, 0, by rw [HN.out.1, HN.out.2]; rfl, by rw [HN.out.2]; exact OwnP.nil, Below.refl _ _⟩
  have n1 : ¬ s.toList = [45] := fun e => h1 (by rw [← bytes_eq, e1]; exact e)
  have b1 : (s.toList == [45]) = false := beq_eq_false_iff_ne.2 n1
  have hl1 : s.data.toList ≠ [45] := fun e => h1 (by rw [← e, bs_of])
  have HRE : Hid (readRE s.data.toList = match propsP (cutL 44 s.data.toList) with | none => 2 | some r => recE r) := by
    unfold Hid readRE; rw [if_neg hl1]; rfl
  have HRV : Hid (readRV s.data.toList = match propsP (cutL 44 s.data.toList) with | none => [] | some r => if recE r = 0 then r else []) := by
    unfold Hid readRV; rw [if_neg hl1]; rfl
  have hx := rcut_any s 44 (by decide) true w hs
  rw [rcut_quotes] at hx
  have HPL : Hid (∀ x ∈ cutL 44 s.data.toList, x.length ≤ 1048576) := fun x hx => by
    have := cutF_lens 44 s.data.toList false [] x hx
    unfold Sm at hs
    simp at this
    omega
  unfold Sm at hs
  have hcl : (cutL 44 s.data.toList).length ≤ 1048577 := by have := cutL_len 44 s.data.toList; omega
  generalize cutL 44 s.data.toList = P at *
  clear h1 e1 hl1 n1
  rw [show (Value.int .u8 ((44 : UInt8).toNat : Int)) = .int .u8 44 from rfl] at hx
  go_enter Tryz.func34, Tryz.ntmps34
  go_wp2_with fail
  refine hx.mono ?_
  clear hx b1
  rintro e w1 ⟨A1, c1, rfl, how, hb1⟩
  have HSL := Lib.hid (own_words how HPL.out)
  obtain ⟨B, hBe⟩ : ∃ B, B = w1.heap.size := ⟨_, rfl⟩
  have HBE := Lib.hid hBe
  clear how hBe
  go_wp2_with fail
  go_loopw [4, 6] (fun x4 i wr => ∃ (k : Nat) (u : List Prp), k ≤ P.length ∧ u.length = k ∧ i = .int .i64 k ∧ Below B w1 wr ∧ B ≤ wr.heap.size ∧ Hid (propsP (P.take k) = some u ∧ ∀ p ∈ u, p.ok) ∧ Hid (Own wr B 62 4 x4 u.length (u.flatMap Prp.enc))) (fun _ i _ => P.length - (intOf i).toNat)
  case atStart => exact ⟨0, [], Nat.zero_le _, rfl, rfl, Below.refl _ _, by rw [HBE.out]; exact Nat.le_refl _, ⟨rfl, fun _ h => by cases h⟩, Own.nil _ _ _ _⟩
  case round =>
    obtain ⟨k, u, hk, hu, rfl, hbr, hBr, HP, HO⟩ := hrel
    have hbr' : Below w1.heap.size w1 wr := by rw [← HBE.out]; exact hbr
    obtain ⟨wo, hwo⟩ : ∃ wo : World, wo = wr := ⟨_, rfl⟩
    subst hwo
    obtain ⟨A4, c4, rfl, hc4, _⟩ := HO.out.form
    by_cases hlt : k < P.length
    · obtain ⟨x, hx⟩ : ∃ x, P[k]? = some x := ⟨_, List.getElem?_eq_getElem hlt⟩
      have hlt' : (k : Int) < (P.length : Int) := by omega
      obtain ⟨gb, o, rfl, hxs, q0⟩ := str_at HSL.out (d := bs x) (by rw [List.getElem?_map, hx]; rfl)
      have Q0 := Lib.hid q0
      have q0 := cell_below hbr' q0
      obtain ⟨t1, t2⟩ := propsP_take HP.out.1 hx
      have T1 := Lib.hid t1
      have T2 := Lib.hid t2
      have hxz := bs_size x
      have hxl : x.length ≤ 1048576 := HPL.out x (List.mem_of_getElem? hx)
      have HPI : Hid (pieceP x = if (Lib.cut x [61]).2.2 = true ∧ readE (Lib.cut x [61]).2.1 = 0 then some ⟨bs (Lib.cut x [61]).1, readV (Lib.cut x [61]).2.1⟩ else none) := rfl
      have hbF := hb1.trans (hbr'.mono hb1.size)
      clear t1 t2 hx hxs
      go_wp2_with fail
      go_loop [7] (fun j => ∃ n : Nat, n ≤ x.length ∧ j = .int .i64 n ∧ Hid (noB 61 (x.take n))) (fun j => x.length - (intOf j).toNat)
      case atStart => exact ⟨0, Nat.zero_le _, rfl, fun y hy => by simp at hy⟩
      case round =>
        obtain ⟨n, hn, rfl, HNB⟩ := hrel
        by_cases hnl : n < x.length
        · have hnl' : (n : Int) < ((bs x).size : Int) := by rw [hxz]; omega
          have hnl2 : n < (bs x).size := by rw [hxz]; omega
          have hyb := bytes_at (bs x) n hnl2
          rw [bs_list] at hyb
          have HYB := Lib.hid hyb
          clear hyb
          by_cases h61 : (bs x)[n] = 61
          · have c1 : (((bs x)[n].toNat : Int) != 61) = false := by rw [h61]; rfl
            have c2 : ((bs x)[n].toNat : Int) = 61 := by rw [h61]; rfl
            have HCT : Hid (Lib.cut x [61] = (x.take n, x.drop (n + 1), true)) := cut_at HNB.out (by rw [HYB.out, h61])
            have hnn : ((n : Int) == ((bs x).size : Int)) = false := by rw [beq_eq_false_iff_ne, hxz]; omega
            have hnp : ¬ (n : Int) = ((bs x).size : Int) := by rw [hxz]; omega
            have hn1 : (n : Int) + 1 ≤ ((bs x).size : Int) := by rw [hxz]; omega
            have hX : (bs x).extract (n + 1) (bs x).size = bs (x.drop (n + 1)) := by
              rw [ext_list, bs_list, hxz, List.take_of_length_le (by rw [List.length_drop]; omega)]
            have hsm : Sm ((bs x).extract (n + 1) (bs x).size) := by unfold Sm; rw [hX, bs_size, List.length_drop]; omega
            have hcall := rread_any ((bs x).extract (n + 1) (bs x).size) hsm wo
            rw [show ((bs x).extract (n + 1) (bs x).size).data.toList = x.drop (n + 1) by rw [hX, bs_list]] at hcall
            have HPE : Hid (pieceP x = if readE (x.drop (n + 1)) = 0 then some ⟨bs (x.take n), readV (x.drop (n + 1))⟩ else none) := by
              unfold Hid; rw [HPI.out, HCT.out]; simp only [true_and]
            have HVO : Hid (readE (x.drop (n + 1)) = 0 → (readV (x.drop (n + 1))).ok) := fun h => readV_ok2 h
            have HNX : Hid ((bs x).extract 0 n = bs (x.take n)) := by unfold Hid; rw [ext_list, bs_list, List.drop_zero, Nat.sub_zero]
            have HNL : Hid ((bs (x.take n)).size ≤ 1048576) := by unfold Hid; rw [bs_size, List.length_take]; omega
            generalize readV (x.drop (n + 1)) = V at *
            generalize readE (x.drop (n + 1)) = E at *
            clear h61 HPI HCT HNB hX hsm HYB
            go_wp2_with fail
            refine hcall.mono ?_
            clear hcall
            rintro e w2 ⟨rfl, hb2⟩
            have ha3 : Below w2.heap.size w2 (w2.alloc (.cells #[.int .i64 V.ty, .int .i64 V.n, .string V.s] 43)) := (Below.refl _ _).alloc (Nat.le_refl _) _
            have hbx := heap_alloc_new w2 (.cells #[.int .i64 V.ty, .int .i64 V.n, .string V.s] 43)
            have hb3 := hb2.trans (ha3.mono hb2.size)
            have hBx := hbr.trans (hb3.mono hBr)
            have hBr3 : B ≤ (w2.alloc (.cells #[.int .i64 V.ty, .int .i64 V.n, .string V.s] 43)).heap.size := Nat.le_trans hBr hb3.size
            have hO3 := HO.out.below hb3
            have hbF3 := hbF.trans (hb3.mono hbF.size)
            have hbr3 := hbr'.trans (hb3.mono hbr'.size)
            clear hb2 ha3 q0
            go_upto_region 14 with fail
            generalize w2.alloc (.cells #[.int .i64 V.ty, .int .i64 V.n, .string V.s] 43) = w3 at *
            generalize w2.heap.size = vq at *
            by_cases hE : E = 0
            case neg =>
              have hEb : (E != 0) = true := by simpa using hE
              have hEp := hE
              have HN : Hid (readRE s.data.toList = 2 ∧ readRV s.data.toList = []) := by
                have hpp := T1.out (by rw [HPE.out, if_neg hE])
                unfold Hid; rw [HRE.out, HRV.out, hpp]; exact ⟨rfl, rfl⟩
              clear T1 T2 HPE HRE HRV HO HP hE hbx hO3
              -- the answer: no record, the fault 2; above w: hbF3
              go_wp2_with fail
              go_ret2
              exact ⟨none, 0, by rw [HN.out.1, HN.out.2]; rfl, by rw [HN.out.2]; exact OwnP.nil, hbF3⟩
            have HST : Hid (propsP (P.take (k + 1)) = some (u ++ [(⟨(bs x).extract 0 n, V⟩ : Prp)])) := T2.out _ (by rw [HPE.out, if_pos hE, HNX.out])
            have hEb : (E != 0) = false := by simpa using hE
            have hVok := HVO.out hE
            have HPK : Hid ((⟨(bs x).extract 0 n, V⟩ : Prp).ok) := ⟨by unfold Sm; rw [HNX.out]; exact HNL.out, hVok⟩
            have HO3 := Lib.hid hO3
            have q0 := cell_below hbr3 Q0.out
            have v0 := block_cell hbx 0
            have v1 := block_cell hbx 1
            have v2 := block_cell hbx 2
            have hn0 : (n : Int) ≤ ((bs x).size : Int) := by omega
            clear T1 T2 HPE HVO hE hVok hO3 hbx HO
            have HU := Lib.hid hu
            have hnlb : k ≤ 1048577 := by omega
            have HOA : Hid (Own (w3.alloc (.cells #[.string ((bs x).extract 0 n), .int .i64 V.ty, .int .i64 V.n, .string V.s] 62)).drew B 62 4 (.slice A4 k c4) k (u.flatMap Prp.enc)) := by
              have h := HO3.out
              rw [hu] at h
              exact (h.alloc _).below ((Below.refl _ _).drew)
            have HNW : Hid (∀ j u', (Prp.enc ⟨(bs x).extract 0 n, V⟩)[j]? = some u' → (w3.alloc (.cells #[.string ((bs x).extract 0 n), .int .i64 V.ty, .int .i64 V.n, .string V.s] 62)).drew.cell? ⟨w3.heap.size, j, none⟩ = some u') := fun j u' hj => by
              show (w3.alloc (.cells #[.string ((bs x).extract 0 n), .int .i64 V.ty, .int .i64 V.n, .string V.s] 62)).cell? ⟨w3.heap.size, j, none⟩ = some u'
              rw [World.cell?_alloc_at _ _ _ _ rfl]; simpa [Prp.enc] using hj
            have HAB : Hid (Below B w3 (w3.alloc (.cells #[.string ((bs x).extract 0 n), .int .i64 V.ty, .int .i64 V.n, .string V.s] 62)).drew) := ((Below.refl _ _).alloc hBr3 _).drew
            have HSB : Hid (B ≤ (w3.alloc (.cells #[.string ((bs x).extract 0 n), .int .i64 V.ty, .int .i64 V.n, .string V.s] 62)).drew.heap.size) := Nat.le_trans hBr3 HAB.out.size
            have HBX := Lib.hid hBx
            clear hu hbr hbr' hbr3 hbF hbF3 hBx
            go_upto_region 16 with fail
            go_region_law
              (first
                | (refine step_here rfl ?_
                   refine wp_append_q _ (.tmp 59) (.tmp 68) _ rfl B 62 i0 (.agg #[.string .empty, .int .i64 0, .int .i64 0, .string .empty]) 4 48 Tryz.underlying59 ei ez ez1 ez2 rfl (by decide) (.slice A4 k c4) k (u.flatMap Prp.enc) rfl HOA.out (some ⟨w3.heap.size, 0, none⟩) 1 1 (Prp.enc ⟨(bs x).extract 0 n, V⟩) rfl rfl (fun _ => ⟨_, rfl, fun j u' hj => by rw [addr_add, Nat.zero_add]; exact HNW.out j u' hj⟩) (one_prpE _) (by unfold maxLen; omega) (by omega) HSB.out ?_
                   intro v7 w7 hown7 hg7 hat7))
            all_goals
              have hB7 := HBX.out.trans (HAB.out.grown hg7 HSB.out (fun kk e => (HOA.out.lt kk e).1))
              have ho7 : Own w7 B 62 4 v7 (u ++ [(⟨(bs x).extract 0 n, V⟩ : Prp)]).length ((u ++ [(⟨(bs x).extract 0 n, V⟩ : Prp)]).flatMap Prp.enc) := by
                have h := hown7
                rw [← flat_snoc (enc := Prp.enc), List.length_append, HU.out]; exact h
              have hs7 : B ≤ w7.heap.size := Nat.le_trans HSB.out hg7.size
              have HO7 := Lib.hid ho7
              have HB7 := Lib.hid hB7
              have HP7 : Hid (propsP (P.take (k + 1)) = some (u ++ [(⟨(bs x).extract 0 n, V⟩ : Prp)]) ∧ ∀ p ∈ u ++ [(⟨(bs x).extract 0 n, V⟩ : Prp)], p.ok) := ⟨HST.out, fun p hp => by
                rcases List.mem_append.1 hp with h | h
                · exact HP.out.2 p h
                · rw [List.mem_singleton.1 h]; exact HPK.out⟩
              clear hg7 hat7 hown7 ho7 hB7
              go_wp2_with fail
              go_roundw
              case rel => exact ⟨k + 1, u ++ [(⟨(bs x).extract 0 n, V⟩ : Prp)], by omega, by rw [List.length_append, HU.out]; rfl, by go_num, HB7.out, hs7, HP7, HO7⟩
              case measure => simp [intOf]; omega
          · have c2 : ¬ ((bs x)[n].toNat : Int) = 61 := fun e => h61 (UInt8.toNat_inj.1 (show (bs x)[n].toNat = 61 by omega))
            have c1 : (((bs x)[n].toNat : Int) != 61) = true := bne_iff_ne.2 c2
            have HNN : Hid (noB 61 (x.take (n + 1))) := noB_step HNB.out HYB.out h61
            clear h61
            go_wp2_with fail
            go_round
            case rel => exact ⟨n + 1, by omega, by go_num, HNN⟩
            case measure => simp [intOf]; omega
        · obtain rfl : n = x.length := by omega
          have HN : Hid (readRE s.data.toList = 2 ∧ readRV s.data.toList = []) := by
            have hp : pieceP x = none := by rw [HPI.out, cut_none HNB.out]; exact if_neg (fun h => by cases h.1)
            have hpp := T1.out hp
            unfold Hid; rw [HRE.out, HRV.out, hpp]; exact ⟨rfl, rfl⟩
          have e2 : ((bs x).size : Int) = (x.length : Int) := by rw [hxz]
          have e3 : ((x.length : Int) == ((bs x).size : Int)) = true := by rw [e2]; simp
          have e4 : ¬ (x.length : Int) < ((bs x).size : Int) := by omega
          clear T1 T2 HPI HNB HRE HRV HO HP
          -- the answer: no record, the fault 2; above w: hbF
          go_wp2_with fail
          go_ret2
          exact ⟨none, 0, by rw [HN.out.1, HN.out.2]; rfl, by rw [HN.out.2]; exact OwnP.nil, hbF⟩
    · obtain rfl : k = P.length := by omega
      have hpp : propsP P = some u := by have h := HP.out.1; rw [List.take_length] at h; exact h
      have HE : Hid (readRE s.data.toList = recE u ∧ readRV s.data.toList = if recE u = 0 then u else []) := by
        unfold Hid; rw [HRE.out, HRV.out, hpp]; exact ⟨rfl, rfl⟩
      have HS : Hid (Sl prpL wo (.slice A4 u.length c4) u) := Own.prps HO.out HP.out.2
      have HPO : Hid (∀ p ∈ u, p.ok) := HP.out.2
      have hcall := rrecord_any u (.slice A4 u.length c4) wo HS.out
      have HU := Lib.hid hu
      have hBo := hb1.trans (hbr'.mono hb1.size)
      have HOW := HO
      rw [hu] at hcall
      generalize recE u = ee at *
      clear hpp HRE HRV HP HO hk hlt
      go_wp2_with fail
      refine hcall.mono ?_
      clear hcall
      rintro e w8 ⟨rfl, hb8⟩
      have hB8 := hBo.trans (hb8.mono hBo.size)
      by_cases hz : ee = 0
      · have hzb : (ee != 0) = false := by simpa using hz
        have HF : Hid (readRE s.data.toList = 0 ∧ readRV s.data.toList = u) := by
          unfold Hid; rw [HE.out.1, HE.out.2, if_pos hz]; exact ⟨hz, rfl⟩
        clear hz HE
        go_wp2_with fail
        go_ret2
        refine ⟨A4, c4, ?_, ?_, hB8⟩
        · rw [HF.out.1, HF.out.2, HU.out]; rfl
        · rw [HF.out.2]
          exact ⟨(HOW.out.below hb8).mono (by rw [HBE.out]; exact hb1.size), HPO.out⟩
      · have hzb : (ee != 0) = true := by simpa using hz
        have HF : Hid (readRE s.data.toList = ee ∧ readRV s.data.toList = []) := by
          unfold Hid; rw [HE.out.1, HE.out.2, if_neg hz]; exact ⟨rfl, rfl⟩
        clear hz HE
        go_wp2_with fail
        go_ret2
        exact ⟨none, 0, by rw [HF.out.1, HF.out.2]; rfl, by rw [HF.out.2]; exact OwnP.nil, hB8⟩
end Go.Proofs.YtdmpkgiijddcdaaGreatDoor
