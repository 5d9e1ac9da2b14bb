/- Parts: RefF, RefG. -/
import Derived.Test.YtfjnkidblalckaaGreatDoorMg19
/- Contract of the references: kinref1.kind: the fault of the i-th one. -/
namespace Go.Proofs.YtfjnkidblalckaaGreatDoor
open Go Go.RowKit

theorem nameE_two {s : ByteArray} (h : nameE s ≠ 0) : nameE s = 2 := by
  unfold nameE at h ⊢
  split
  · rfl
  · rename_i h1
    rw [if_neg h1] at h
    split
    · rfl
    · rename_i h2
      rw [if_neg h2] at h
      split
      · rfl
      · rename_i h3; rw [if_neg h3] at h; exact absurd rfl h
set_option maxRecDepth 100000 in
set_option maxHeartbeats 4000000 in
theorem rkind1_any (l : List Knd) (i : Nat) (k : Knd) (v : Value) (w : World) (hv : Sl kndL w v l) (hk : l[i]? = some k) (hw : Wf (l.take i)) (hl : l.length ≤ 12) (hfl : ∀ x ∈ l.take i, x.fields.length ≤ 8) :
    Calls Tryz.prog 57 #[v, .int .i64 i] w fun e w' => e = .returned (.int .i64 (oneE (l.take i) k)) ∧ Below w.heap.size w w' := by
  obtain ⟨A, c, rfl, hlc, hcA⟩ := hv.form
  have HV := Lib.hid hv
  have hi : i < l.length := (List.getElem?_eq_some_iff.1 hk).1
  have hi' : (i : Int) < (l.length : Int) := by omega
  have hic : (i : Int) ≤ (c : Int) := by omega
  have htk := hv.take (k := i) (by omega)
  obtain ⟨b, o, rfl, u1, u2, hnm, h1, h2, c0, c1, c2⟩ := knd_at hv hk
  obtain ⟨A1, c1', rfl, _, hc1⟩ := h1.form
  obtain ⟨A2, c2', rfl, _, hc2⟩ := h2.form
  obtain ⟨z0, z1, z2⟩ := cell_box3 w (.string k.name) (.slice A1 k.ofs.length c1') (.slice A2 k.fields.length c2') 39
  have hb0 : Below w.heap.size w (w.alloc (.cells #[.string k.name, .slice A1 k.ofs.length c1', .slice A2 k.fields.length c2'] 39)) := (Below.refl _ _).alloc (Nat.le_refl _) _
  have HK := Lib.hid hk
  have HW := Lib.hid hw
  have HFL := Lib.hid hfl
  clear hfl hw hk hv
  go_enter Tryz.func57, Tryz.ntmps57
  go_wp2_with fail
  refine (rname_any k.name _ hnm).mono ?_
  rintro e w1 ⟨rfl, rfl⟩
  generalize w.alloc (.cells #[.string k.name, .slice A1 k.ofs.length c1', .slice A2 k.fields.length c2'] 39) = W at *
  by_cases hn : nameE k.name = 0
  case neg =>
    have HE : Hid (oneE (l.take i) k = 2) := by unfold Hid oneE; rw [if_neg hn, nameE_two hn]
    rw [nameE_two hn]
    clear hn
    go_wp2_with fail
    go_ret
    exact ⟨by rw [HE.out]; rfl, hb0⟩
  have HE1 : Hid (oneE (l.take i) k = if 0 ≤ kFind (l.take i) k.name then 7 else if 4 < k.ofs.length then 4 else if 8 < k.fields.length then 4 else if ofsE (l.take i) [] k.ofs = 0 then if fldsE none k.fields = 0 then sumE (fieldsOf (l.take i ++ [k]) k.name) else fldsE none k.fields else ofsE (l.take i) [] k.ofs) := by
    unfold Hid oneE; rw [if_pos hn]
  rw [hn]
  clear hn
  go_wp2_with fail
  refine wp_mid_k 5 _ rfl rfl (by kernel_rfl) (by kernel_rfl) ?_
  simp only [List.take_succ_cons, List.take_zero, List.drop_succ_cons, List.drop_zero]
  repeat (go_big_quiet_step (fail))
  refine wpQuiet_nil ?_
  intro _ hw'
  obtain ⟨nq, hw''⟩ := hw'
  subst hw''
  intro K hK
  have hkf := rkind_any (l.take i) k.name _ (W.drewN nq) (htk.below (below_drewN hb0 nq))
  have y0 : (W.drewN nq).cell? ⟨w.heap.size, 0, none⟩ = some (.string k.name) := z0
  have y1 : (W.drewN nq).cell? ⟨w.heap.size, 1, none⟩ = some (.slice A1 k.ofs.length c1') := z1
  have y2 : (W.drewN nq).cell? ⟨w.heap.size, 2, none⟩ = some (.slice A2 k.fields.length c2') := z2
  have hb1 := below_drewN hb0 nq
  go_wp2_with fail
  refine hkf.mono ?_
  clear hkf
  rintro e w1 ⟨rfl, rfl⟩
  clear z0 z1 z2 hb0
  generalize W.drewN nq = W at *
  generalize hzz : kFind (l.take i) k.name = z at *
  have HZ := Lib.hid hzz
  clear hzz
  refine hK _ _ ?_
  repeat (go_big_quiet_step (fail))
  refine wpQuiet_nil ?_
  intro _ hw'
  obtain ⟨nq2, hw''⟩ := hw'
  subst hw''
  clear hK
  have z0 : (W.drewN nq2).cell? ⟨w.heap.size, 0, none⟩ = some (.string k.name) := y0
  have z1 : (W.drewN nq2).cell? ⟨w.heap.size, 1, none⟩ = some (.slice A1 k.ofs.length c1') := y1
  have z2 : (W.drewN nq2).cell? ⟨w.heap.size, 2, none⟩ = some (.slice A2 k.fields.length c2') := y2
  have hb2 := below_drewN hb1 nq2
  clear y0 y1 y2 hb1
  generalize W.drewN nq2 = W at *
  by_cases hz : 0 ≤ z
  case pos =>
    have HE : Hid (oneE (l.take i) k = 7) := by unfold Hid; rw [HE1.out, if_pos hz]
    clear HE1
    go_wp2_with fail
    go_ret
    exact ⟨by rw [HE.out]; rfl, hb2⟩
  have hz' : z < 0 := by omega
  have HNEW : Hid (kFind (l.take i) k.name < 0) := by unfold Hid; rw [HZ.out]; exact hz'
  have HE2 : Hid (oneE (l.take i) k = if 4 < k.ofs.length then 4 else if 8 < k.fields.length then 4 else if ofsE (l.take i) [] k.ofs = 0 then if fldsE none k.fields = 0 then sumE (fieldsOf (l.take i ++ [k]) k.name) else fldsE none k.fields else ofsE (l.take i) [] k.ofs) := by
    unfold Hid; rw [HE1.out, if_neg hz]
  clear HE1 hz
  by_cases h4 : 4 < k.ofs.length
  case pos =>
    have HE : Hid (oneE (l.take i) k = 4) := by unfold Hid; rw [HE2.out, if_pos h4]
    have h4' : (4 : Int) < (k.ofs.length : Int) := by omega
    clear HE2
    go_wp2_with fail
    go_ret
    exact ⟨by rw [HE.out]; rfl, hb2⟩
  have h4' : (k.ofs.length : Int) ≤ 4 := by omega
  by_cases h8 : 8 < k.fields.length
  case pos =>
    have HE : Hid (oneE (l.take i) k = 4) := by unfold Hid; rw [HE2.out, if_neg h4, if_pos h8]
    have h8' : (8 : Int) < (k.fields.length : Int) := by omega
    clear HE2
    go_wp2_with fail
    go_ret
    exact ⟨by rw [HE.out]; rfl, hb2⟩
  have h8' : (k.fields.length : Int) ≤ 8 := by omega
  have HE3 : Hid (oneE (l.take i) k = if ofsE (l.take i) [] k.ofs = 0 then if fldsE none k.fields = 0 then sumE (fieldsOf (l.take i ++ [k]) k.name) else fldsE none k.fields else ofsE (l.take i) [] k.ofs) := by
    unfold Hid; rw [HE2.out, if_neg h4, if_neg h8]
  clear HE2
  go_wp2_with fail
  go_loopw [6] (fun t wr => ∃ j : Nat, j ≤ k.ofs.length ∧ t = .int .i64 j ∧ Below W.heap.size W wr ∧ Hid (ofsE (l.take i) [] k.ofs = ofsE (l.take i) (k.ofs.take j) (k.ofs.drop j))) (fun t _ => k.ofs.length - (intOf t).toNat)
  case atStart => exact ⟨0, Nat.zero_le _, rfl, Below.refl _ _, rfl⟩
  case round =>
    obtain ⟨j, hj, rfl, hbr, HR⟩ := hrel
    have hBr := hb2.trans (hbr.mono hb2.size)
    have r0 := cell_below hbr z0
    have r1 := cell_below hbr z1
    have r2 := cell_below hbr z2
    clear z0 z1 z2
    by_cases hlt : j < k.ofs.length
    · obtain ⟨s, hs⟩ : ∃ s, k.ofs[j]? = some s := ⟨_, List.getElem?_eq_getElem hlt⟩
      obtain ⟨bs, os, rfl, hss, x0⟩ := str_at (h1.below hBr) hs
      have HS := Lib.hid (ofsE_step hs HR.out)
      have hlt' : (j : Int) < (k.ofs.length : Int) := by omega
      have htk1 := h1.take hj
      have hj' : (j : Int) ≤ (c1' : Int) := by omega
      clear hs HR
      go_wp2_with fail
      refine wp_mid_k 8 _ rfl rfl (by kernel_rfl) (by kernel_rfl) ?_
      simp only [List.take_succ_cons, List.take_zero, List.drop_succ_cons, List.drop_zero]
      repeat (go_big_quiet_step (fail))
      refine wpQuiet_nil ?_
      intro _ hw'
      obtain ⟨nq, hw''⟩ := hw'
      subst hw''
      intro K hK
      have hkf := rkind_any (l.take i) s _ (wr.drewN nq) (htk.below (below_drewN hBr nq))
      have y0 : (wr.drewN nq).cell? ⟨w.heap.size, 0, none⟩ = some (.string k.name) := r0
      have y1 : (wr.drewN nq).cell? ⟨w.heap.size, 1, none⟩ = some (.slice (some ⟨bs, os, none⟩) k.ofs.length c1') := r1
      have y2 : (wr.drewN nq).cell? ⟨w.heap.size, 2, none⟩ = some (.slice A2 k.fields.length c2') := r2
      have x1 : (wr.drewN nq).cell? ⟨bs, os + j, none⟩ = some (.string s) := x0
      go_wp2_with fail
      refine hkf.mono ?_
      clear hkf
      rintro e w3 ⟨rfl, rfl⟩
      generalize kFind (l.take i) s = z3 at *
      refine hK _ _ ?_
      repeat (go_big_quiet_step (fail))
      refine wpQuiet_nil ?_
      intro _ hw'
      obtain ⟨nq2, hw''⟩ := hw'
      subst hw''
      clear hK
      by_cases hz2 : z3 < 0
      · have HE : Hid (oneE (l.take i) k = 5) := by unfold Hid; rw [HE3.out, HS.out, if_pos hz2, if_neg (by omega)]
        clear HE3 HS
        go_wp2_with fail
        go_ret
        exact ⟨by rw [HE.out]; rfl, below_drewN (below_drewN hBr _) _⟩
      · have hz3 : 0 ≤ z3 := by omega
        have HS2 : Hid (ofsE (l.take i) [] k.ofs = if (k.ofs.take j).any (fun y => decide (s = y)) then 7 else ofsE (l.take i) (k.ofs.take (j + 1)) (k.ofs.drop (j + 1))) := by unfold Hid; rw [HS.out, if_neg hz2]
        clear HS hz2
        generalize hWx : (wr.drewN nq).drewN nq2 = Wx at *
        have hbx : Below W.heap.size W Wx := by rw [← hWx]; exact below_drewN (below_drewN hbr _) _
        have hBx : Below w.heap.size w Wx := by rw [← hWx]; exact below_drewN (below_drewN hBr _) _
        have s0 : Wx.cell? ⟨w.heap.size, 0, none⟩ = some (.string k.name) := by rw [← hWx]; exact r0
        have s1 : Wx.cell? ⟨w.heap.size, 1, none⟩ = some (.slice (some ⟨bs, os, none⟩) k.ofs.length c1') := by rw [← hWx]; exact r1
        have s2 : Wx.cell? ⟨w.heap.size, 2, none⟩ = some (.slice A2 k.fields.length c2') := by rw [← hWx]; exact r2
        have s3 : Wx.cell? ⟨bs, os + j, none⟩ = some (.string s) := by rw [← hWx]; exact x0
        clear y0 y1 y2 x1 r0 r1 r2 x0 hWx
        go_wp2_with fail
        refine wp_mid_k 9 _ rfl rfl (by kernel_rfl) (by kernel_rfl) ?_
        simp only [List.take_succ_cons, List.take_zero, List.drop_succ_cons, List.drop_zero]
        repeat (go_big_quiet_step (fail))
        refine wpQuiet_nil ?_
        intro _ hw'
        obtain ⟨nq, hw''⟩ := hw'
        subst hw''
        intro K hK
        have hin := rin_any (k.ofs.take j) s _ (Wx.drewN nq) (htk1.below (below_drewN hBx nq))
        have hlj : (k.ofs.take j).length = j := by simp; omega
        have y0 : (Wx.drewN nq).cell? ⟨w.heap.size, 0, none⟩ = some (.string k.name) := s0
        go_wp2_with fail
        refine hin.mono ?_
        clear hin
        rintro e w4 ⟨rfl, rfl⟩
        generalize hany : (k.ofs.take j).any (fun y => decide (s = y)) = qa at *
        refine hK _ _ ?_
        repeat (go_big_quiet_step (fail))
        refine wpQuiet_nil ?_
        intro _ hw'
        obtain ⟨nq2, hw''⟩ := hw'
        subst hw''
        clear hK
        cases qa with
        | true =>
          have HE : Hid (oneE (l.take i) k = 7) := by unfold Hid; rw [HE3.out, HS2.out, if_pos rfl, if_neg (by omega)]
          clear HE3 HS2 hany
          go_wp2_with fail
          go_ret
          exact ⟨by rw [HE.out]; rfl, below_drewN (below_drewN hBx _) _⟩
        | false =>
          have HN : Hid (ofsE (l.take i) [] k.ofs = ofsE (l.take i) (k.ofs.take (j + 1)) (k.ofs.drop (j + 1))) := by unfold Hid; rw [HS2.out]; simp
          clear HE3 HS2 hany
          go_wp2_with fail
          go_roundw
          case rel => exact ⟨j + 1, by omega, by go_num, below_drewN hbx _, HN⟩
          case measure => simp [intOf]; omega
    · obtain rfl : j = k.ofs.length := by omega
      have HO : Hid (ofsE (l.take i) [] k.ofs = 0) := by unfold Hid; rw [HR.out, List.drop_length]; rfl
      have HE4 : Hid (oneE (l.take i) k = if fldsE none k.fields = 0 then sumE (fieldsOf (l.take i ++ [k]) k.name) else fldsE none k.fields) := by unfold Hid; rw [HE3.out, if_pos HO.out]
      clear HE3 HR
      obtain ⟨w2, rfl⟩ : ∃ w2 : World, w2 = wr := ⟨_, rfl⟩
      clear hbr hb2
      go_wp2_with fail
      go_loopw [8] (fun t wx => ∃ j : Nat, j ≤ k.fields.length ∧ t = .int .i64 j ∧ Below w2.heap.size w2 wx ∧ Hid (fldsE none k.fields = fldsE (prev k.fields j) (k.fields.drop j))) (fun t _ => k.fields.length - (intOf t).toNat)
      case atStart => exact ⟨0, Nat.zero_le _, rfl, Below.refl _ _, rfl⟩
      case round =>
        obtain ⟨j, hj, rfl, hbr, HR⟩ := hrel
        have hBx := hBr.trans (hbr.mono hBr.size)
        have s0 := cell_below hbr r0
        have s1 := cell_below hbr r1
        have s2 := cell_below hbr r2
        clear r0 r1 r2
        by_cases hlt2 : j < k.fields.length
        · obtain ⟨d, hd⟩ : ∃ d, k.fields[j]? = some d := ⟨_, List.getElem?_eq_getElem hlt2⟩
          obtain ⟨bd, od, rfl, hok, x0, x1, x2, x3⟩ := fld_at (h2.below hBx) hd
          obtain ⟨z0, z1, z2, z3⟩ := cell_box4 wr (.string d.name) (.int .i64 d.ty) (.bool d.must) (.bool d.key) 144
          have hbb := hbr.alloc hbr.size (.cells #[.string d.name, .int .i64 d.ty, .bool d.must, .bool d.key] 144)
          have hBb := hBx.alloc hBx.size (.cells #[.string d.name, .int .i64 d.ty, .bool d.must, .bool d.key] 144)
          have hlt' : (j : Int) < (k.fields.length : Int) := by omega
          have HS : Hid (fldsE none k.fields = if fldE (prev k.fields j) d = 0 then fldsE (prev k.fields (j + 1)) (k.fields.drop (j + 1)) else fldE (prev k.fields j) d) := by
            unfold Hid; rw [HR.out, drop_cons hd, fldsE, prev_succ hd]
          have HD := Lib.hid hd
          clear hd HR
          go_wp2_with fail
          refine (rname_any d.name _ hok.1).mono ?_
          rintro e w3 ⟨rfl, rfl⟩
          by_cases hn : nameE d.name = 0
          case neg =>
            have hn2 := nameE_two hn
            have HE : Hid (oneE (l.take i) k = 2) := by
              have h1 : fldE (prev k.fields j) d = nameE d.name := by unfold fldE; rw [if_neg hn]
              unfold Hid; rw [HE4.out, HS.out, h1, if_neg hn, hn2]; rfl
            rw [hn2]
            clear hn hn2 HE4 HS
            go_wp2_with fail
            go_ret
            exact ⟨by rw [HE.out]; rfl, hBb⟩
          have HQ : Hid (fldE (prev k.fields j) d = if tyB d.ty then (if d.key && !d.must then 3 else match prev k.fields j with | some q => (if ltS q.name d.name then 0 else 7) | none => 0) else 8) := by
            unfold Hid fldE; rw [if_pos hn]; rfl
          rw [hn]
          clear hn
          by_cases ht : tyB d.ty = true
          case neg =>
            have HE : Hid (oneE (l.take i) k = 8) := by
              have h1 : fldE (prev k.fields j) d = 8 := by rw [HQ.out, if_neg ht]
              unfold Hid; rw [HE4.out, HS.out, h1]; rfl
            clear HE4 HS HQ
            have ht2 : d.ty < 1 ∨ 3 < d.ty := by
              unfold tyB at ht; simp at ht; omega
            clear ht
            by_cases hlow : d.ty < 1
            · go_wp2_with fail
              go_ret
              exact ⟨by rw [HE.out]; rfl, hBb⟩
            · have hlow' : 1 ≤ d.ty := by omega
              have hhi : 3 < d.ty := by omega
              clear ht2
              go_wp2_with fail
              go_ret
              exact ⟨by rw [HE.out]; rfl, hBb⟩
          have ht1 : 1 ≤ d.ty := by unfold tyB at ht; simp at ht; omega
          have ht3 : d.ty ≤ 3 := by unfold tyB at ht; simp at ht; omega
          have HQ2 : Hid (fldE (prev k.fields j) d = if d.key && !d.must then 3 else match prev k.fields j with | some q => (if ltS q.name d.name then 0 else 7) | none => 0) := by
            exact HQ.out.trans (if_pos ht)
          clear HQ ht
          cases hK : (d.key && !d.must) with
          | true =>
            have HE : Hid (oneE (l.take i) k = 3) := by
              have h1 : fldE (prev k.fields j) d = 3 := by rw [HQ2.out, hK]; rfl
              unfold Hid; rw [HE4.out, HS.out, h1]; rfl
            clear HQ2 HE4 HS
            have hk1 : d.key = true := by cases h : d.key <;> simp [h] at hK ⊢
            have hk2 : d.must = false := by cases h : d.must <;> simp [h] at hK ⊢
            clear hK
            rw [hk1, hk2] at z0 z1 z2 z3
            rw [hk1, hk2]
            go_wp2_with fail
            go_ret
            exact ⟨by rw [HE.out]; rfl, by rw [hk1, hk2] at hBb; exact hBb⟩
          | false =>
            have HQ3 : Hid (fldE (prev k.fields j) d = match prev k.fields j with | some q => (if ltS q.name d.name then 0 else 7) | none => 0) := by
              unfold Hid; rw [HQ2.out, hK]; rfl
            have hkm : d.key = false ∨ (d.key = true ∧ d.must = true) := by cases h : d.key <;> simp [h] at hK ⊢; exact hK
            clear HQ2 hK
            by_cases h0 : j = 0
            · subst h0
              have HN : Hid (fldsE none k.fields = fldsE (prev k.fields (0 + 1)) (k.fields.drop (0 + 1))) := by unfold Hid; rw [HS.out, HQ3.out]; rfl
              clear HQ3 HS HE4
              rcases hkm with hk1 | ⟨hk1, hk2⟩
              · rw [hk1] at z0 z1 z2 z3 hbb
                rw [hk1]
                go_wp2_with fail
                go_quiet (fail)
                go_wp2_with fail
                go_roundw
                case rel => exact ⟨1, by omega, by go_num, below_drewN hbb _, HN⟩
                case measure => simp [intOf]; omega
              · rw [hk1, hk2] at z0 z1 z2 z3 hbb
                rw [hk1, hk2]
                go_wp2_with fail
                go_quiet (fail)
                go_wp2_with fail
                go_roundw
                case rel => exact ⟨1, by omega, by go_num, below_drewN hbb _, HN⟩
                case measure => simp [intOf]; omega
            · obtain ⟨m, rfl⟩ : ∃ m, j = m + 1 := ⟨j - 1, by omega⟩
              obtain ⟨q, hq⟩ : ∃ q, k.fields[m]? = some q := ⟨_, List.getElem?_eq_getElem (by omega)⟩
              have hm1 : ((m + 1 : Nat) : Int) - 1 = (m : Int) := by omega
              have hm2 : (0 : Int) < ((m + 1 : Nat) : Int) := by omega
              have hm3 : (m : Int) < (k.fields.length : Int) := by omega
              have hpv : prev k.fields (m + 1) = some q := hq
              obtain ⟨b', o', hA', _, y0, _⟩ := fld_at (h2.below hBx) hq
              injection hA' with e5
              injection e5 with e6 e7
              subst e6; subst e7
              have hltS : ltS q.name d.name = decide (0 < cmpS d.name q.name) := by
                rw [ltS_cmp, cmpS_anti d.name q.name]; congr 1; apply propext; omega
              have hL : Op.bytesLess d.name.toList q.name.toList = decide (cmpS d.name q.name < 0) := ltS_cmp d.name q.name
              have hE : (d.name.toList == q.name.toList) = decide (d.name = q.name) := bytes_beq d.name q.name
              have y1 := cell_below ((Below.refl _ _).alloc (Nat.le_refl _) (.cells #[.string d.name, .int .i64 d.ty, .bool d.must, .bool d.key] 144)) y0
              have t2 := cell_below ((Below.refl _ _).alloc (Nat.le_refl _) (.cells #[.string d.name, .int .i64 d.ty, .bool d.must, .bool d.key] 144)) s2
              rcases Int.lt_trichotomy (cmpS d.name q.name) 0 with hc | hc | hc
              · have hqf : ¬ d.name = q.name := fun e => by rw [cmpS_zero.2 e] at hc; omega
                have HE : Hid (oneE (l.take i) k = 7) := by
                  have h1 : fldE (prev k.fields (m + 1)) d = 7 := by rw [HQ3.out, hpv]; simp only; rw [hltS, decide_eq_false (by omega)]; rfl
                  unfold Hid; rw [HE4.out, HS.out, h1]; rfl
                rw [decide_eq_true hc] at hL
                rw [decide_eq_false hqf] at hE
                have hE2 : ¬ d.name.toList = q.name.toList := by rw [bytes_eq]; exact hqf
                clear HQ3 HS hq hpv hltS hc hqf HE4
                rcases hkm with hk1 | ⟨hk1, hk2⟩
                · rw [hk1] at z0 z1 z2 z3 hbb y1 t2 hBb
                  rw [hk1]
                  go_wp2_with fail
                  go_quiet (fail)
                  go_wp2_with fail
                  go_ret
                  exact ⟨by rw [HE.out]; rfl, below_drewN hBb _⟩
                · rw [hk1, hk2] at z0 z1 z2 z3 hbb y1 t2 hBb
                  rw [hk1, hk2]
                  go_wp2_with fail
                  go_quiet (fail)
                  go_wp2_with fail
                  go_ret
                  exact ⟨by rw [HE.out]; rfl, below_drewN hBb _⟩
              · have hqf : d.name = q.name := cmpS_zero.1 hc
                have HE : Hid (oneE (l.take i) k = 7) := by
                  have h1 : fldE (prev k.fields (m + 1)) d = 7 := by rw [HQ3.out, hpv]; simp only; rw [hltS, decide_eq_false (by omega)]; rfl
                  unfold Hid; rw [HE4.out, HS.out, h1]; rfl
                rw [decide_eq_false (show ¬ cmpS d.name q.name < 0 by omega)] at hL
                rw [decide_eq_true hqf] at hE
                have hE2 : d.name.toList = q.name.toList := by rw [bytes_eq]; exact hqf
                clear HQ3 HS hq hpv hltS hc hqf HE4
                rcases hkm with hk1 | ⟨hk1, hk2⟩
                · rw [hk1] at z0 z1 z2 z3 hbb y1 t2 hBb
                  rw [hk1]
                  go_wp2_with fail
                  go_quiet (fail)
                  go_wp2_with fail
                  go_ret
                  exact ⟨by rw [HE.out]; rfl, below_drewN hBb _⟩
                · rw [hk1, hk2] at z0 z1 z2 z3 hbb y1 t2 hBb
                  rw [hk1, hk2]
                  go_wp2_with fail
                  go_quiet (fail)
                  go_wp2_with fail
                  go_ret
                  exact ⟨by rw [HE.out]; rfl, below_drewN hBb _⟩
              · have hqf : ¬ d.name = q.name := fun e => by rw [cmpS_zero.2 e] at hc; omega
                have HN : Hid (fldsE none k.fields = fldsE (prev k.fields (m + 1 + 1)) (k.fields.drop (m + 1 + 1))) := by
                  have h1 : fldE (prev k.fields (m + 1)) d = 0 := by rw [HQ3.out, hpv]; simp only; rw [hltS, decide_eq_true hc]; rfl
                  unfold Hid; rw [HS.out, h1]; rfl
                rw [decide_eq_false (show ¬ cmpS d.name q.name < 0 by omega)] at hL
                rw [decide_eq_false hqf] at hE
                have hE2 : ¬ d.name.toList = q.name.toList := by rw [bytes_eq]; exact hqf
                clear HQ3 HS hq hpv hltS hc hqf HE4
                rcases hkm with hk1 | ⟨hk1, hk2⟩
                · rw [hk1] at z0 z1 z2 z3 hbb y1 t2
                  rw [hk1]
                  go_wp2_with fail
                  go_quiet (fail)
                  go_wp2_with fail
                  go_roundw
                  case rel => exact ⟨m + 1 + 1, by omega, by go_num, below_drewN hbb _, HN⟩
                  case measure => simp [intOf]; omega
                · rw [hk1, hk2] at z0 z1 z2 z3 hbb y1 t2
                  rw [hk1, hk2]
                  go_wp2_with fail
                  go_quiet (fail)
                  go_wp2_with fail
                  go_roundw
                  case rel => exact ⟨m + 1 + 1, by omega, by go_num, below_drewN hbb _, HN⟩
                  case measure => simp [intOf]; omega
        · obtain rfl : j = k.fields.length := by omega
          have HOf : Hid (fldsE none k.fields = 0) := by unfold Hid; rw [HR.out, List.drop_length]; rfl
          have HE5 : Hid (oneE (l.take i) k = sumE (fieldsOf (l.take i ++ [k]) k.name)) := by unfold Hid; rw [HE4.out, if_pos HOf.out]
          clear HE4 HOf HR
          have HW2 := Lib.hid (wf_snoc HW.out HK.out HNEW.out HO.out)
          have HT := Lib.hid (take_step HK.out)
          have hic2 : (i : Int) + 1 ≤ (c : Int) := by omega
          have htk2 := HV.out.take (k := i + 1) (by omega)
          go_wp2_with fail
          refine wp_mid_k 6 _ rfl rfl (by kernel_rfl) (by kernel_rfl) ?_
          simp only [List.take_succ_cons, List.take_zero, List.drop_succ_cons, List.drop_zero]
          repeat (go_big_quiet_step (fail))
          refine wpQuiet_nil ?_
          intro _ hw'
          obtain ⟨nq, hw''⟩ := hw'
          subst hw''
          intro K hK
          have hin := rfields_any (l.take (i + 1)) k.name _ (wr.drewN nq) (htk2.below (below_drewN hBx nq)) HW2.out (kFind_mem (k := k) (by rw [HT.out]; simp)) (by simp; omega) (by
            intro x hx
            rw [HT.out] at hx
            rcases List.mem_append.1 hx with h | h
            · exact HFL.out x h
            · simp at h; subst h; omega)
          have y0 : (wr.drewN nq).cell? ⟨w.heap.size, 0, none⟩ = some (.string k.name) := s0
          rw [← HT.out] at HE5
          go_wp2_with fail
          refine hin.mono ?_
          clear hin
          rintro e w5 ⟨u, rfl, hu, hb5⟩
          have hB5 := (below_drewN hBx nq).trans (hb5.mono (below_drewN hBx nq).size)
          cases hfo : fieldsOf (l.take (i + 1)) k.name with
          | none =>
            have HE : Hid (oneE (l.take i) k = 7) := by unfold Hid; rw [HE5.out, hfo]; rfl
            rw [hfo] at hu
            obtain ⟨A5, c5, rfl, _, _⟩ := hu.form
            clear hfo HE5 hu
            refine hK _ _ ?_
            repeat (go_big_quiet_step (fail))
            refine wpQuiet_nil ?_
            intro _ hw'
            obtain ⟨nq2, hw''⟩ := hw'
            subst hw''
            clear hK
            go_wp2_with fail
            go_ret
            exact ⟨by rw [HE.out]; rfl, below_drewN hB5 _⟩
          | some fs =>
            have HE6 : Hid (oneE (l.take i) k = if 8 < fs.length then 4 else 0) := by unfold Hid; rw [HE5.out, hfo]; rfl
            rw [hfo] at hu
            have hu2 : Sl fldL w5 u fs := hu
            obtain ⟨A5, c5, rfl, _, _⟩ := hu2.form
            clear hfo HE5 hu hu2
            refine hK _ _ ?_
            repeat (go_big_quiet_step (fail))
            refine wpQuiet_nil ?_
            intro _ hw'
            obtain ⟨nq2, hw''⟩ := hw'
            subst hw''
            clear hK
            by_cases h9 : 8 < fs.length
            · have HE : Hid (oneE (l.take i) k = 4) := by unfold Hid; rw [HE6.out, if_pos h9]
              have h9' : (8 : Int) < (fs.length : Int) := by omega
              clear HE6
              go_wp2_with fail
              go_ret
              exact ⟨by rw [HE.out]; rfl, below_drewN hB5 _⟩
            · have HE : Hid (oneE (l.take i) k = 0) := by unfold Hid; rw [HE6.out, if_neg h9]
              have h9' : (fs.length : Int) ≤ 8 := by omega
              clear HE6
              go_wp2_with fail
              go_ret
              exact ⟨by rw [HE.out]; rfl, below_drewN hB5 _⟩
end Go.Proofs.YtfjnkidblalckaaGreatDoor

/- Contract of the references: kinref1.Kinds: the first one that is wrong. -/
namespace Go.Proofs.YtfjnkidblalckaaGreatDoor
open Go Go.RowKit

set_option maxRecDepth 100000 in
set_option maxHeartbeats 4000000 in
theorem rkinds_any (l : List Knd) (v : Value) (w : World) (hv : Sl kndL w v l) :
    Calls Tryz.prog 43 #[v] w fun e w' => e = .returned (.tuple #[.string (checkE l).1, .int .i64 (checkE l).2]) ∧ Below w.heap.size w w' := by
  obtain ⟨A, c, rfl, hlc, hcA⟩ := hv.form
  unfold maxLen at hcA
  have hlm : (l.length : Int) ≤ 9223372036854775807 := by omega
  by_cases h12 : 12 < l.length
  · have HE : Hid (checkE l = (.empty, 4)) := by unfold Hid checkE; rw [if_pos h12]
    have h12' : (12 : Int) < (l.length : Int) := by omega
    clear hv
    go_enter Tryz.func43, Tryz.ntmps43
    go_wp2_with fail
    go_ret2
    exact ⟨by rw [HE.out]; rfl, Below.refl _ _⟩
  have h12' : (l.length : Int) ≤ 12 := by omega
  have HE0 : Hid (checkE l = kindsE [] l) := by unfold Hid checkE; rw [if_neg h12]
  go_enter Tryz.func43, Tryz.ntmps43
  go_wp2_with fail
  go_loopw [4] (fun i wr => ∃ j : Nat, j ≤ l.length ∧ i = .int .i64 j ∧ Below w.heap.size w wr ∧ Hid (kindsE [] l = kindsE (l.take j) (l.drop j)) ∧ Hid (Wf (l.take j) ∧ ∀ x ∈ l.take j, x.fields.length ≤ 8)) (fun i _ => l.length - (intOf i).toNat)
  case atStart => exact ⟨0, Nat.zero_le _, rfl, Below.refl _ _, rfl, fun i k hk => by simp at hk, fun x hx => by simp at hx⟩
  case round =>
    obtain ⟨j, hj, rfl, hbr, HR, HS⟩ := hrel
    by_cases hlt : j < l.length
    · obtain ⟨k, hk⟩ : ∃ k, l[j]? = some k := ⟨_, List.getElem?_eq_getElem hlt⟩
      obtain ⟨b, o, hAe, u, x, hnm, hso, hsf, c0, c1, c2⟩ := knd_at (hv.below hbr) hk
      subst hAe
      have hlt' : (j : Int) < (l.length : Int) := by omega
      have hone := rkind1_any l j k _ wr (hv.below hbr) hk HS.out.1 (by omega) HS.out.2
      have HK := Lib.hid (kindsE_step hk HR.out)
      have HT := Lib.hid (take_step hk)
      have HKK := Lib.hid hk
      clear hk HR c1 c2 hso hsf
      go_wp2_with fail
      refine hone.mono ?_
      clear hone
      rintro e w3 ⟨rfl, hb3⟩
      have hB3 := hbr.trans (hb3.mono hbr.size)
      have x0 := cell_below hb3 c0
      clear c0
      by_cases he : oneE (l.take j) k = 0
      · have HN : Hid (kindsE [] l = kindsE (l.take (j + 1)) (l.drop (j + 1))) := by unfold Hid; rw [HK.out, if_pos he]
        have HS2 : Hid (Wf (l.take (j + 1)) ∧ ∀ x ∈ l.take (j + 1), x.fields.length ≤ 8) := by
          refine ⟨wf_snoc HS.out.1 HKK.out (oneE_zero he).new (oneE_zero he).ofs, ?_⟩
          intro x hx
          rw [HT.out] at hx
          rcases List.mem_append.1 hx with h | h
          · exact HS.out.2 x h
          · simp at h; subst h; exact (oneE_ofl he).2
        rw [he]
        clear he HK
        go_wp2_with fail
        go_roundw
        case rel => exact ⟨j + 1, by omega, by go_num, hB3, HN, HS2⟩
        case measure => simp [intOf]; omega
      · have HE : Hid (checkE l = (k.name, oneE (l.take j) k)) := by unfold Hid; rw [HE0.out, HK.out, if_neg he]
        have hne := he
        clear HK
        generalize oneE (l.take j) k = z at *
        go_wp2_with fail
        go_ret2
        exact ⟨by rw [HE.out]; rfl, hB3⟩
    · obtain rfl : j = l.length := by omega
      have HE : Hid (checkE l = (.empty, 0)) := by unfold Hid; rw [HE0.out, HR.out, List.drop_length]; rfl
      clear hv
      go_wp2_with fail
      go_ret2
      exact ⟨by rw [HE.out]; rfl, hbr⟩
end Go.Proofs.YtfjnkidblalckaaGreatDoor
