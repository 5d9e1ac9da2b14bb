/- Parts: DifD, Simp, ChK. -/
import Derived.Test.YtldonhgcifhpgaaMg22
import Derived.Test.YtldonhgcifhpgaaMg11
import Derived.Test.YtldonhgcifhpgaaMg13
import Derived.Test.YtldonhgcifhpgaaMg20
import Derived.Laws.Rows
import Derived.Deep.DeepCutAuto
/- Contract: diff.Wider. No condition. -/
namespace Go.Proofs.Ytldonhgcifhpgaa
open Go Go.RowKit


theorem wd1_any (a : Scm) (d : Bnd) (u vk vb : Value) (bk : Nat) (w : World) (hu : bndV w d u) (ha : ScmR w vk vb a) (hq : w.heap[bk]? = some (.cells #[vk, vb] 25 (0, 0))) :
    Calls Try.prog 53 #[u, .pointer (some ⟨bk, 0, none⟩)] w fun e w' => e = .returned (.bool (decide (bFind a.bonds d.name < 0) && decide (0 < d.mn))) ∧ Below w.heap.size w w' := by
  obtain rfl : u = _ := hu
  obtain ⟨A1, c1, rfl, _, _⟩ := ha.1.form
  obtain ⟨A2, c2, rfl, _, _⟩ := ha.2.form
  have hb0 : Below w.heap.size w (w.alloc (.cells #[.string d.name, .string d.src, .string d.dst, .int .i64 d.mn, .int .i64 d.mx] 31)) := (Below.refl _ _).alloc (Nat.le_refl _) _
  have hq' := (hb0.block _ (Array.getElem?_eq_some_iff.1 hq).1).trans hq
  obtain ⟨z0, z1, z2, z3, z4⟩ := cell_box5 w (.string d.name) (.string d.src) (.string d.dst) (.int .i64 d.mn) (.int .i64 d.mx) 31
  have x0 := block_cell hq' 0
  have x1 := block_cell hq' 1
  have hcall := sFind_any a d.name _ _ _ (ScmR.below hb0 ha)
  have hk := (Array.getElem?_eq_some_iff.1 hq).1
  generalize bFind a.bonds d.name = z at *
  clear ha hq hq'
  by_cases hz : z < 0
  · have hz' : decide (z < 0) = true := decide_eq_true hz
    rw [hz']
    clear hz
    have hw := hb0.size
    go_enter Try.func53, Try.ntmps53
    go_wp2_with fail
    refine hcall.mono ?_
    clear hcall
    rintro e w2 ⟨rfl, hb2⟩
    have z3 := cell_below hb2 z3
    have hB := hb0.trans (hb2.mono hw)
    cases e3 : decide (0 < d.mn)
    all_goals
      go_wp2_with fail
      go_ret
      exact ⟨by rw [e3]; rfl, hB⟩
  · have hz' : decide (z < 0) = false := decide_eq_false hz
    rw [hz']
    clear hz
    have hw := hb0.size
    go_enter Try.func53, Try.ntmps53
    go_wp2_with fail
    refine hcall.mono ?_
    clear hcall
    rintro e w2 ⟨rfl, hb2⟩
    have hB := hb0.trans (hb2.mono hw)
    go_wp2_with fail
    go_ret
    exact ⟨rfl, hB⟩
theorem kindW_neg {l : List Knd} {k : Knd} (h : kFind l k.name < 0) : kindW l k = false := by
  unfold kindW; split
  · simp [h]
  · rfl
theorem kindW_at {l : List Knd} {k d : Knd} {i : Nat} (h : kFind l k.name = i) (hd : l[i]? = some d) : kindW l k = (decide (k.ofs = d.ofs) && fieldsW k.fields d.fields) := by
  unfold kindW; rw [h, Int.toNat_natCast, hd]
  simp only
  rw [decide_eq_false (by omega)]; simp
theorem bondW_neg {l : List Bnd} {k : Bnd} (h : bFind l k.name < 0) : bondW l k = false := by
  unfold bondW; split
  · simp [h]
  · rfl
theorem bondW_at {l : List Bnd} {k d : Bnd} {i : Nat} (h : bFind l k.name = i) (hd : l[i]? = some d) : bondW l k = bondW1 k d := by
  unfold bondW; rw [h, Int.toNat_natCast, hd]
  simp only
  rw [decide_eq_false (by omega)]; simp
theorem wider_noK {a b : Scm} {x : Knd} (hx : x ∈ a.kinds) (h : kindW b.kinds x = false) : widerB a b = false := by
  unfold widerB
  have : a.kinds.all (kindW b.kinds) = false := List.all_eq_false.2 ⟨x, hx, by simp [h]⟩
  rw [this]; rfl
theorem wider_noB {a b : Scm} {x : Bnd} (hx : x ∈ a.bonds) (h : bondW b.bonds x = false) : widerB a b = false := by
  unfold widerB
  have : a.bonds.all (bondW b.bonds) = false := List.all_eq_false.2 ⟨x, hx, by simp [h]⟩
  rw [this]; simp
set_option maxRecDepth 100000 in
set_option maxHeartbeats 8000000 in
theorem wider_any (a b : Scm) (k1 b1 k2 b2 : Value) (w : World) (h1 : ScmR w k1 b1 a) (h2 : ScmR w k2 b2 b) :
    Calls Try.prog 18 #[.agg #[k1, b1], .agg #[k2, b2]] w fun e w' => e = .returned (.tuple #[.bool (widerR a b), errV (bothE a b)]) ∧ Below w.heap.size w w' := by
  obtain ⟨A1, c1, rfl, hk1, hm1⟩ := h1.1.form
  obtain ⟨A2, c2, rfl, hk2, hm2⟩ := h1.2.form
  obtain ⟨A3, c3, rfl, hk3, hm3⟩ := h2.1.form
  obtain ⟨A4, c4, rfl, hk4, hm4⟩ := h2.2.form
  unfold maxLen at hm1 hm2 hm3 hm4
  obtain ⟨W0, hW0⟩ : ∃ W0, W0 = (w.alloc (.cells #[.slice A1 a.kinds.length c1, .slice A2 a.bonds.length c2] 25)).alloc (.cells #[.slice A3 b.kinds.length c3, .slice A4 b.bonds.length c4] 25) := ⟨_, rfl⟩
  have hb0 : Below w.heap.size w W0 := by rw [hW0]; exact ((Below.refl _ _).alloc (Nat.le_refl _) _).alloc (by simp) _
  have g0 : W0.heap[w.heap.size]? = some (.cells #[.slice A1 a.kinds.length c1, .slice A2 a.bonds.length c2] 25 (0, 0)) := by
    rw [hW0, Below.heap_alloc _ _ _ (by simp)]; exact heap_alloc_new _ _
  have g1 : W0.heap[w.heap.size + 1]? = some (.cells #[.slice A3 b.kinds.length c3, .slice A4 b.bonds.length c4] 25 (0, 0)) := by
    have := heap_alloc_new (w.alloc (.cells #[.slice A1 a.kinds.length c1, .slice A2 a.bonds.length c2] 25)) (.cells #[.slice A3 b.kinds.length c3, .slice A4 b.bonds.length c4] 25); rw [hW0]; simpa using this
  have hW0' := hW0.symm
  have x0 := block_cell g0 0
  have x1 := block_cell g0 1
  have y0 := block_cell g1 0
  have y1 := block_cell g1 1
  have hbt := both_any a b _ _ _ _ W0 (h1.below hb0) (h2.below hb0)
  have H1 := Lib.hid (h1.below hb0)
  have H2 := Lib.hid (h2.below hb0)
  have hw0 := hb0.size
  have HG0 := Lib.hid g0
  have HBO : Hid (bothE a b = 0 → (scmE a).2 = 0 ∧ (scmE b).2 = 0) := by
    intro h
    unfold bothE at h
    split at h
    · rename_i h0; exact ⟨h0, h⟩
    · rename_i h0; exact absurd h h0
  have HLR : Hid (widerR a b = if bothE a b = 0 then widerB a b else false) := rfl
  generalize hz : bothE a b = z at *
  clear h1 h2 hW0 g0 g1 hz
  go_enter Try.func18, Try.ntmps18
  go_wp2_with fail
  refine hbt.mono ?_
  clear hbt hW0'
  rintro e W1 ⟨rfl, hb1⟩
  have hB1 := hb0.trans (hb1.mono hw0)
  by_cases he : z = 0
  case neg =>
    have HE : Hid (errV z = .iface 98 (.int .i64 z) ∧ widerR a b = false) := ⟨errV_some he, by rw [HLR.out, if_neg he]⟩
    rw [errV_some he]
    clear he HLR
    go_wp2_with fail
    go_ret2
    exact ⟨by rw [HE.out.1, HE.out.2]; rfl, hB1⟩
  obtain ⟨ea, eb⟩ := HBO.out he
  have ska := scmE_zero ea
  have skb := scmE_zero eb
  have la1 := ska.r.len
  have la2 := ska.bl
  have lb1 := skb.r.len
  have lb2 := skb.bl
  have la1' : (a.kinds.length : Int) ≤ 12 := by omega
  have la2' : (a.bonds.length : Int) ≤ 12 := by omega
  have HE : Hid (errV z = .nilIface ∧ widerR a b = widerB a b) := ⟨errV_zero he, by rw [HLR.out, if_pos he]⟩
  have x0 := cell_below hb1 x0
  have x1 := cell_below hb1 x1
  have y0 := cell_below hb1 y0
  have y1 := cell_below hb1 y1
  have H1 := Lib.hid (H1.out.below hb1)
  have H2 := Lib.hid (H2.out.below hb1)
  have HG1 := Lib.hid ((hb1.block _ (Array.getElem?_eq_some_iff.1 HG0.out).1).trans HG0.out)
  have HWB : Hid (widerB a b = (a.kinds.all (kindW b.kinds) && a.bonds.all (bondW b.bonds) && !(b.bonds.any fun x => decide (bFind a.bonds x.name < 0) && decide (0 < x.mn)))) := rfl
  rw [errV_zero he]
  clear he HLR HBO ea eb ska skb hb1 HG0
  go_wp2_with fail
  go_loopw [22] (fun i wr => ∃ (k : Nat), k ≤ a.kinds.length ∧ i = .int .i64 k ∧ Below W1.heap.size W1 wr ∧ Hid (∀ j x, j < k → a.kinds[j]? = some x → kindW b.kinds x = true)) (fun i _ => a.kinds.length - (intOf i).toNat)
  case atStart => exact ⟨0, Nat.zero_le _, rfl, Below.refl _ _, fun j x hj => absurd hj (Nat.not_lt_zero _)⟩
  case round =>
    obtain ⟨k, hk, rfl, hbr, HP⟩ := hrel
    have x0 := cell_below hbr x0
    have x1 := cell_below hbr x1
    have y0 := cell_below hbr y0
    have y1 := cell_below hbr y1
    by_cases hlt : k < a.kinds.length
    · obtain ⟨d, hd⟩ : ∃ d, a.kinds[k]? = some d := ⟨_, List.getElem?_eq_getElem hlt⟩
      obtain ⟨bb, o, rfl, u, x, hsm, hso, hsf, q0, q1, q2⟩ := knd_at (H1.out.below hbr).1 hd
      obtain ⟨E1, e1, rfl, _, _⟩ := hso.form
      obtain ⟨E2, e2, rfl, _, _⟩ := hsf.form
      obtain ⟨z0, z1, z2⟩ := cell_box3 wr (.string d.name) (.slice E1 d.ofs.length e1) (.slice E2 d.fields.length e2) 29
      have ha1 : Below wr.heap.size wr (wr.alloc (.cells #[.string d.name, .slice E1 d.ofs.length e1, .slice E2 d.fields.length e2] 29)) := (Below.refl _ _).alloc (Nat.le_refl _) _
      have hlt' : (k : Int) < (a.kinds.length : Int) := by omega
      have HD := Lib.hid hd
      have hbb := hbr.trans (ha1.mono hbr.size)
      have hkf := kFind_any b.kinds d.name _ _ ((H2.out.below hbb).1)
      have y0' := cell_below ha1 y0
      have HO := Lib.hid (hso.below ha1)
      have HF := Lib.hid (hsf.below ha1)
      have hkc := kFind_cases b.kinds d.name
      have HKN : Hid (kFind b.kinds d.name < 0 → kindW b.kinds d = false) := kindW_neg
      have HKA : Hid (∀ (i : Nat) x, kFind b.kinds d.name = i → b.kinds[i]? = some x → kindW b.kinds d = (decide (d.ofs = x.ofs) && fieldsW d.fields x.fields)) := fun i x h hx => kindW_at h hx
      clear hd hso hsf hsm y0 x0 x1 y1
      go_upto_region 7 with fail
      generalize wr.alloc (.cells #[.string d.name, .slice E1 d.ofs.length e1, .slice E2 d.fields.length e2] 29) = Wa at *
      generalize kFind b.kinds d.name = fz at *
      go_wp2_with fail
      refine hkf.mono ?_
      clear hkf
      rintro e w3 ⟨rfl, hb3⟩
      have y0 := cell_below hb3 y0'
      have z1 := cell_below hb3 z1
      have z2 := cell_below hb3 z2
      have hb13 := hbb.trans (hb3.mono hbb.size)
      have hB3 := hB1.trans (hb13.mono hB1.size)
      have HO := Lib.hid (HO.out.below hb3)
      have HF := Lib.hid (HF.out.below hb3)
      clear y0' hb3 ha1 z0 q0 q1 q2
      rcases hkc with hn | ⟨i, d2, rfl, hd2⟩
      · have HQ := Lib.hid (HKN.out hn)
        have hn' : decide (fz < 0) = true := decide_eq_true hn
        clear HKA HKN
        go_wp2_with fail
        go_quiet (fail)
        -- wider_noK (List.mem_of_getElem? HD.out) HQ.out: no
        have HF : Hid (widerR a b = false) := by unfold Hid; rw [HE.out.2]; exact wider_noK (List.mem_of_getElem? HD.out) HQ.out
        go_wp2_with fail
        go_ret2
        exact ⟨by rw [HF.out, HE.out.1]; rfl, below_drewN hB3 _⟩
      · have HQ := Lib.hid (HKA.out i d2 rfl hd2)
        have hi := (List.getElem?_eq_some_iff.1 hd2).1
        have hi' : (i : Int) < (b.kinds.length : Int) := by omega
        have hn0 : decide ((i : Int) < 0) = false := decide_eq_false (by omega)
        obtain ⟨b3, o3, rfl, u3, x3, hsm3, hso3, hsf3, p0, p1, p2⟩ := knd_at (H2.out.below hb13).1 hd2
        obtain ⟨E3, e3, rfl, _, _⟩ := hso3.form
        obtain ⟨E4, e4, rfl, _, _⟩ := hsf3.form
        have HF3 := Lib.hid hsf3
        have heq := fun n => eqStrs_any_q d.ofs d2.ofs _ _ (w3.drewN n) (HO.out.below (below_drewN (Below.refl _ _) n)) (hso3.below (below_drewN (Below.refl _ _) n))
        clear HKA HKN hd2 hsm3 hso3 hsf3
        by_cases hof : d.ofs = d2.ofs
        case neg =>
          have HQ2 : Hid (kindW b.kinds d = false) := by unfold Hid; rw [HQ.out, decide_eq_false hof]; rfl
          rw [decide_eq_false hof] at heq
          have HEQ := Lib.hid heq
          clear HQ hof heq
          go_wp2_with fail
          go_quiet ((go_at_call 48; exact Calls.quiet_of (HEQ.out _)))
          -- wider_noK (List.mem_of_getElem? HD.out) HQ2.out: no
          have HF : Hid (widerR a b = false) := by unfold Hid; rw [HE.out.2]; exact wider_noK (List.mem_of_getElem? HD.out) HQ2.out
          go_wp2_with fail
          go_ret2
          exact ⟨by rw [HF.out, HE.out.1]; rfl, below_drewN hB3 _⟩
        have HQ2 : Hid (kindW b.kinds d = fieldsW d.fields d2.fields) := by unfold Hid; rw [HQ.out, decide_eq_true hof, Bool.true_and]
        rw [decide_eq_true hof] at heq
        have HEQ := Lib.hid heq
        clear HQ hof heq
        go_wp2_with fail
        refine wp_mid_g 23 _ rfl rfl (by kernel_rfl) ?_
        simp only [List.take_succ_cons, List.take_zero, List.drop_succ_cons, List.drop_zero]
        repeat (go_big_quiet_step ((go_at_call 48; exact Calls.quiet_of (HEQ.out _))))
        refine wpQuiet_nil ?_
        refine ⟨by simp [Region.wanted, yielded, go_sem], ?_⟩
        intro _ hw'
        obtain ⟨nq, hw''⟩ := hw'
        subst hw''
        intro K hK
        have hcall := dfields_any d.fields d2.fields _ _ (w3.drewN nq) (HF.out.below (below_drewN (Below.refl _ _) nq)) (HF3.out.below (below_drewN (Below.refl _ _) nq))
        generalize fieldsW d.fields d2.fields = qq at *
        go_wp2_with fail
        refine hcall.mono ?_
        clear hcall
        rintro e w4 ⟨rfl, hb4⟩
        have hb34 := (below_drewN (Below.refl w3.heap.size w3) nq).trans hb4
        refine hK _ _ ?_
        repeat (go_big_quiet_step (fail))
        refine wpQuiet_nil ?_
        intro _ hw'
        obtain ⟨nq2, hw''⟩ := hw'
        subst hw''
        clear hK
        have hbW := below_drewN hb34 nq2
        generalize w4.drewN nq2 = w2 at *
        have hb12 := hb13.trans (hbW.mono hb13.size)
        have hB4 := hB3.trans (hbW.mono hB3.size)
        clear z1 z2 y0 p0 p1 p2 hb4 hb34 hbW hb13 hbb hB3
        cases qq with
        | true =>
          have HS : Hid (∀ j x, j < k + 1 → a.kinds[j]? = some x → kindW b.kinds x = true) := hit_step HP.out HD.out HQ2.out
          go_wp2_with fail
          go_roundw
          case rel => exact ⟨k + 1, by omega, by go_num, hb12, HS⟩
          case measure => simp [intOf]; omega
        | false =>
          -- wider_noK (List.mem_of_getElem? HD.out) HQ2.out: no
          have HF : Hid (widerR a b = false) := by unfold Hid; rw [HE.out.2]; exact wider_noK (List.mem_of_getElem? HD.out) HQ2.out
          go_wp2_with fail
          go_ret2
          exact ⟨by rw [HF.out, HE.out.1]; rfl, hB4⟩
    · obtain rfl : k = a.kinds.length := by omega
      have HWB2 : Hid (widerB a b = (a.bonds.all (bondW b.bonds) && !(b.bonds.any fun x => decide (bFind a.bonds x.name < 0) && decide (0 < x.mn)))) := by unfold Hid; rw [HWB.out, all_of HP.out, Bool.true_and]
      have HBR0 := Lib.hid hbr
      have HH1 := Lib.hid (H1.out.below hbr)
      have HH2 := Lib.hid (H2.out.below hbr)
      have hB2 := hB1.trans (hbr.mono hB1.size)
      have HG2 := Lib.hid ((hbr.block _ (Array.getElem?_eq_some_iff.1 HG1.out).1).trans HG1.out)
      clear HWB HP hbr H1 H2 HG1 HBR0
      generalize hwr : wr = W2 at *
      clear hwr
      go_wp2_with fail
      go_loopw [61] (fun i wr => ∃ (k : Nat), k ≤ a.bonds.length ∧ i = .int .i64 k ∧ Below W2.heap.size W2 wr ∧ Hid (∀ j x, j < k → a.bonds[j]? = some x → bondW b.bonds x = true)) (fun i _ => a.bonds.length - (intOf i).toNat)
      case atStart => exact ⟨0, Nat.zero_le _, rfl, Below.refl _ _, fun j x hj => absurd hj (Nat.not_lt_zero _)⟩
      case round =>
        obtain ⟨k, hk, rfl, hbr, HP⟩ := hrel
        have x0 := cell_below hbr x0
        have x1 := cell_below hbr x1
        have y0 := cell_below hbr y0
        have y1 := cell_below hbr y1
        by_cases hlt : k < a.bonds.length
        · obtain ⟨d, hd⟩ : ∃ d, a.bonds[k]? = some d := ⟨_, List.getElem?_eq_getElem hlt⟩
          obtain ⟨bb, o, rfl, hok, q0, q1, q2, q3, q4⟩ := bnd_at (HH1.out.below hbr).2 hd
          obtain ⟨z0, z1, z2, z3, z4⟩ := cell_box5 wr (.string d.name) (.string d.src) (.string d.dst) (.int .i64 d.mn) (.int .i64 d.mx) 31
          have ha1 : Below wr.heap.size wr (wr.alloc (.cells #[.string d.name, .string d.src, .string d.dst, .int .i64 d.mn, .int .i64 d.mx] 31)) := (Below.refl _ _).alloc (Nat.le_refl _) _
          have hlt' : (k : Int) < (a.bonds.length : Int) := by omega
          have HD := Lib.hid hd
          have HOK := Lib.hid hok
          have hbb := hbr.trans (ha1.mono hbr.size)
          have hkf := sFind_any b d.name _ _ _ (HH2.out.below hbb)
          have y0' := cell_below ha1 y0
          have y1' := cell_below ha1 y1
          have hkc := bFind_cases b.bonds d.name
          have HKN : Hid (bFind b.bonds d.name < 0 → bondW b.bonds d = false) := bondW_neg
          have HKA : Hid (∀ (i : Nat) x, bFind b.bonds d.name = i → b.bonds[i]? = some x → bondW b.bonds d = bondW1 d x) := fun i x h hx => bondW_at h hx
          clear hd hok y0 y1 x0 x1
          go_upto_region 14 with fail
          generalize wr.alloc (.cells #[.string d.name, .string d.src, .string d.dst, .int .i64 d.mn, .int .i64 d.mx] 31) = Wa at *
          generalize bFind b.bonds d.name = fz at *
          go_wp2_with fail
          refine hkf.mono ?_
          clear hkf
          rintro e w3 ⟨rfl, hb3⟩
          have y1 := cell_below hb3 y1'
          have z0 := cell_below hb3 z0
          have z1 := cell_below hb3 z1
          have z2 := cell_below hb3 z2
          have z3 := cell_below hb3 z3
          have z4 := cell_below hb3 z4
          have hb13 := hbb.trans (hb3.mono hbb.size)
          have hB3 := hB2.trans (hb13.mono hB2.size)
          clear y0' y1' hb3 ha1 q0 q1 q2 q3 q4
          rcases hkc with hn | ⟨i, d2, rfl, hd2⟩
          · have HQ := Lib.hid (HKN.out hn)
            have hn' : decide (fz < 0) = true := decide_eq_true hn
            clear HKA HKN
            go_wp2_with fail
            go_quiet (fail)
            -- wider_noB (List.mem_of_getElem? HD.out) HQ.out: no
            have HF : Hid (widerR a b = false) := by unfold Hid; rw [HE.out.2]; exact wider_noB (List.mem_of_getElem? HD.out) HQ.out
            go_wp2_with fail
            go_ret2
            exact ⟨by rw [HF.out, HE.out.1]; rfl, below_drewN hB3 _⟩
          · have HQ := Lib.hid (HKA.out i d2 rfl hd2)
            have hi := (List.getElem?_eq_some_iff.1 hd2).1
            have hi' : (i : Int) < (b.bonds.length : Int) := by omega
            have hn0 : decide ((i : Int) < 0) = false := decide_eq_false (by omega)
            obtain ⟨b3, o3, rfl, hok3, p0, p1, p2, p3, p4⟩ := bnd_at (HH2.out.below hb13).2 hd2
            have HO3 := Lib.hid hok3
            clear HKA HKN hd2 hok3
            go_wp2_with fail
            refine wp_mid_g 9 _ rfl rfl (by kernel_rfl) ?_
            simp only [List.take_succ_cons, List.take_zero, List.drop_succ_cons, List.drop_zero]
            repeat (go_big_quiet_step (fail))
            refine wpQuiet_nil ?_
            refine ⟨by simp [Region.wanted, yielded, go_sem], ?_⟩
            intro _ hw'
            obtain ⟨nq, hw''⟩ := hw'
            subst hw''
            intro K hK
            have hcall := wider1_any d d2 (w3.drewN nq) HOK.out HO3.out
            generalize bondW1 d d2 = qq at *
            go_wp2_with fail
            refine hcall.mono ?_
            clear hcall
            rintro e w4 ⟨rfl, hb4⟩
            have hb34 := (below_drewN (Below.refl w3.heap.size w3) nq).trans hb4
            refine hK _ _ ?_
            repeat (go_big_quiet_step (fail))
            refine wpQuiet_nil ?_
            intro _ hw'
            obtain ⟨nq2, hw''⟩ := hw'
            subst hw''
            clear hK
            have hbW := below_drewN hb34 nq2
            generalize w4.drewN nq2 = w2 at *
            have hb12 := hb13.trans (hbW.mono hb13.size)
            have hB4 := hB3.trans (hbW.mono hB3.size)
            clear z0 z1 z2 z3 z4 y1 p0 p1 p2 p3 p4 hb4 hb34 hbW hb13 hbb hB3
            cases qq with
            | true =>
              have HS : Hid (∀ j x, j < k + 1 → a.bonds[j]? = some x → bondW b.bonds x = true) := hit_step HP.out HD.out HQ.out
              go_wp2_with fail
              go_roundw
              case rel => exact ⟨k + 1, by omega, by go_num, hb12, HS⟩
              case measure => simp [intOf]; omega
            | false =>
              -- wider_noB (List.mem_of_getElem? HD.out) HQ.out: no
              have HF : Hid (widerR a b = false) := by unfold Hid; rw [HE.out.2]; exact wider_noB (List.mem_of_getElem? HD.out) HQ.out
              go_wp2_with fail
              go_ret2
              exact ⟨by rw [HF.out, HE.out.1]; rfl, hB4⟩
        · obtain rfl : k = a.bonds.length := by omega
          have HQ : Hid (widerB a b = !(b.bonds.any fun x => decide (bFind a.bonds x.name < 0) && decide (0 < x.mn))) := by
            unfold Hid; rw [HWB2.out, all_of HP.out, Bool.true_and]
          have hcall := cont_bnds 53 #[.pointer (some ⟨w.heap.size, 0, none⟩)] (by intro args w; kernel_rfl) (fun x => decide (bFind a.bonds x.name < 0) && decide (0 < x.mn)) b.bonds _ wr (HH2.out.below hbr).2
            (fun d u wx hx hu => wd1_any a d u _ _ _ wx hu ((HH1.out.below hbr).below hx) ((hx.block _ (by have := (Array.getElem?_eq_some_iff.1 HG2.out).1; have := hbr.size; omega)).trans ((hbr.block _ (Array.getElem?_eq_some_iff.1 HG2.out).1).trans HG2.out)))
          have hBr := hB2.trans (hbr.mono hB2.size)
          generalize (b.bonds.any fun x => decide (bFind a.bonds x.name < 0) && decide (0 < x.mn)) = q at *
          go_wp2_with fail
          refine hcall.mono ?_
          clear hcall
          rintro e w5 ⟨rfl, hb5⟩
          go_wp2_with fail
          go_ret2
          exact ⟨by rw [HE.out.1, HE.out.2, HQ.out]; rfl, hBr.trans (hb5.mono hBr.size)⟩
end Go.Proofs.Ytldonhgcifhpgaa

/- Contract: kinlaw4.simple. No condition. -/
namespace Go.Proofs.Ytldonhgcifhpgaa
open Go Go.RowKit

def simpS (mx : Int) : Scm := ⟨[⟨⟨#[97]⟩, [], [⟨⟨#[107]⟩, 1, true, true⟩]⟩], [⟨⟨#[112]⟩, ⟨#[97]⟩, ⟨#[97]⟩, 0, mx⟩]⟩
/-- The blocks of the simple schema. -/
theorem simp_read {W : World} {mx : Int} {f k p : Nat} (hmx : I64 mx) (h1 : W.heap[f]? = some (.cells #[.string ⟨#[107]⟩, .int .i64 1, .bool true, .bool true] 33 (0, 0)))
    (h2 : W.heap[k]? = some (.cells #[.string ⟨#[97]⟩, .slice none 0 0, .slice (some ⟨f, 0, none⟩) 1 1] 29 (0, 0)))
    (h3 : W.heap[p]? = some (.cells #[.string ⟨#[112]⟩, .string ⟨#[97]⟩, .string ⟨#[97]⟩, .int .i64 0, .int .i64 mx] 31 (0, 0))) :
    ScmR W (.slice (some ⟨k, 0, none⟩) 1 1) (.slice (some ⟨p, 0, none⟩) 1 1) (simpS mx) := by
  have hm : Sm ⟨#[97]⟩ ∧ Sm ⟨#[107]⟩ ∧ Sm ⟨#[112]⟩ := ⟨by show 1 ≤ 1048576; omega, by show 1 ≤ 1048576; omega, by show 1 ≤ 1048576; omega⟩
  have hf : Sl fldL W (.slice (some ⟨f, 0, none⟩) 1 1) [⟨⟨#[107]⟩, 1, true, true⟩] := sl_block (t := 33) (fr := (0, 0)) Fld.enc_len [⟨⟨#[107]⟩, 1, true, true⟩] (fun x hx => by simp at hx; subst hx; exact ⟨hm.2.1, by show I64 (1 : Int); unfold I64; omega⟩) 1 (by simp) (by simp [maxLen]) h1
  constructor
  · refine ⟨_, 1, rfl, Nat.le_refl _, by simp [maxLen], fun i d hi => ?_⟩
    match i, hi with
    | 0, hi =>
      injection hi with e; subst e
      refine ⟨_, 0, [.string ⟨#[97]⟩, .slice none 0 0, .slice (some ⟨f, 0, none⟩) 1 1], rfl, ⟨_, _, rfl, hm.1, Sl.nil 0 (Nat.zero_le _) none, hf⟩, fun j u hj => ?_⟩
      rw [block_cell h2]
      simpa using hj
    | i + 1, hi => simp [simpS] at hi
  · exact sl_block (t := 31) (fr := (0, 0)) Bnd.enc_len [⟨⟨#[112]⟩, ⟨#[97]⟩, ⟨#[97]⟩, 0, mx⟩] (fun x hx => by simp at hx; subst hx; exact ⟨hm.2.2, hm.1, hm.1, by show I64 (0 : Int); unfold I64; omega, hmx⟩) 1 (by simp) (by simp [maxLen]) h3
set_option maxHeartbeats 1000000 in
theorem simple_any (mx : Int) (w : World) (hmx : I64 mx) :
    Calls Try.prog 17 #[.int .i64 mx] w fun e w' => ∃ vk vb, e = .returned (.agg #[vk, vb]) ∧ ScmR w' vk vb (simpS mx) ∧ Below w.heap.size w w' := by
  go_enter Try.func17, Try.ntmps17
  go_wp2_with fail
  have hb1 : Below w.heap.size w ((((w.alloc (.cells #[.slice (some ⟨w.heap.size + 1 + 1, 0, none⟩) 1 1, .slice (some ⟨w.heap.size + 1 + 1 + 1, 0, none⟩) 1 1] 25)).alloc
    (.cells #[.string ⟨#[107]⟩, .int .i64 1, .bool true, .bool true] 33)).alloc (.cells #[.string ⟨#[97]⟩, .slice none 0 0, .slice (some ⟨w.heap.size + 1, 0, none⟩) 1 1] 29)).alloc
    (.cells #[.string ⟨#[112]⟩, .string ⟨#[97]⟩, .string ⟨#[97]⟩, .int .i64 0, .int .i64 mx] 31)) := ((((Below.refl _ _).alloc (Nat.le_refl _) _).alloc (by simp) _).alloc (by simp; omega) _).alloc (by simp; omega) _
  have h1 := heap_alloc_new (w.alloc (.cells #[.slice (some ⟨w.heap.size + 1 + 1, 0, none⟩) 1 1, .slice (some ⟨w.heap.size + 1 + 1 + 1, 0, none⟩) 1 1] 25)) (.cells #[.string ⟨#[107]⟩, .int .i64 1, .bool true, .bool true] 33)
  have h2 := heap_alloc_new ((w.alloc (.cells #[.slice (some ⟨w.heap.size + 1 + 1, 0, none⟩) 1 1, .slice (some ⟨w.heap.size + 1 + 1 + 1, 0, none⟩) 1 1] 25)).alloc (.cells #[.string ⟨#[107]⟩, .int .i64 1, .bool true, .bool true] 33))
    (.cells #[.string ⟨#[97]⟩, .slice none 0 0, .slice (some ⟨w.heap.size + 1, 0, none⟩) 1 1] 29)
  have h3 := heap_alloc_new (((w.alloc (.cells #[.slice (some ⟨w.heap.size + 1 + 1, 0, none⟩) 1 1, .slice (some ⟨w.heap.size + 1 + 1 + 1, 0, none⟩) 1 1] 25)).alloc (.cells #[.string ⟨#[107]⟩, .int .i64 1, .bool true, .bool true] 33)).alloc
    (.cells #[.string ⟨#[97]⟩, .slice none 0 0, .slice (some ⟨w.heap.size + 1, 0, none⟩) 1 1] 29)) (.cells #[.string ⟨#[112]⟩, .string ⟨#[97]⟩, .string ⟨#[97]⟩, .int .i64 0, .int .i64 mx] 31)
  have z0 := heap_alloc_new w (.cells #[.slice (some ⟨w.heap.size + 1 + 1, 0, none⟩) 1 1, .slice (some ⟨w.heap.size + 1 + 1 + 1, 0, none⟩) 1 1] 25)
  simp only [World.size_alloc] at h1 h2 h3
  have h1' := (Below.heap_alloc _ (.cells #[.string ⟨#[112]⟩, .string ⟨#[97]⟩, .string ⟨#[97]⟩, .int .i64 0, .int .i64 mx] 31) _ (by simp)).trans ((Below.heap_alloc _ (.cells #[.string ⟨#[97]⟩, .slice none 0 0, .slice (some ⟨w.heap.size + 1, 0, none⟩) 1 1] 29) _ (by simp)).trans h1)
  have h2' := (Below.heap_alloc _ (.cells #[.string ⟨#[112]⟩, .string ⟨#[97]⟩, .string ⟨#[97]⟩, .int .i64 0, .int .i64 mx] 31) _ (by simp)).trans h2
  have z1 := (Below.heap_alloc _ (.cells #[.string ⟨#[112]⟩, .string ⟨#[97]⟩, .string ⟨#[97]⟩, .int .i64 0, .int .i64 mx] 31) _ (by simp only [World.size_alloc]; omega)).trans ((Below.heap_alloc _ (.cells #[.string ⟨#[97]⟩, .slice none 0 0, .slice (some ⟨w.heap.size + 1, 0, none⟩) 1 1] 29) _ (by simp only [World.size_alloc]; omega)).trans ((Below.heap_alloc _ (.cells #[.string ⟨#[107]⟩, .int .i64 1, .bool true, .bool true] 33) _ (by simp only [World.size_alloc]; omega)).trans z0))
  have k0 := block_cell z1 0
  have k1 := block_cell z1 1
  exact bodyPost_ret (v := .agg #[.slice (some ⟨w.heap.size + 1 + 1, 0, none⟩) 1 1, .slice (some ⟨w.heap.size + 1 + 1 + 1, 0, none⟩) 1 1]) (by simp [results, Try.results17, go_sem, k0, k1]) rfl
    ⟨_, _, rfl, simp_read hmx h1' h2' h3, hb1⟩
end Go.Proofs.Ytldonhgcifhpgaa

/- Contract: change.Do. -/
namespace Go.Proofs.Ytldonhgcifhpgaa
open Go Go.RowKit

/-- A schema, and an error. -/
def RetSS (s : Scm) (err : Int) (w : World) (e : Ending) (w' : World) : Prop := ∃ vk vb, e = .returned (.tuple #[.agg #[vk, vb], errV err]) ∧ ScmR w' vk vb s ∧ Below w.heap.size w w'
/-- .. of which all is the call's own. -/
def RetSO (s : Scm) (err : Int) (w : World) (e : Ending) (w' : World) : Prop := ∃ vk vb xs, e = .returned (.tuple #[.agg #[vk, vb], errV err]) ∧ OwnS w' w.heap.size vk vb s xs ∧ Below w.heap.size w w'
theorem OwnS.none (w : World) (B : Nat) : OwnS w B (.slice none 0 0) (.slice none 0 0) ⟨[], []⟩ [] := ⟨Own.nil _ _ _ _, rfl, Own.nil _ _ _ _, (fun x hx => by cases hx), FDist.nil⟩
theorem OwnKnds.mono {w : World} {B B' : Nat} (hB : B' ≤ B) : ∀ {l : List Knd} {xs : List Value}, OwnKnds w B l xs → OwnKnds w B' l xs
  | [], _, h => h
  | _ :: _, _, h => by
    obtain ⟨u, x, ys, rfl, a1, a2, a3, a4, a5, a6⟩ := h
    exact ⟨u, x, ys, rfl, a1, a2, a3.mono hB, a4, a5.mono hB, a6.mono hB⟩
theorem OwnS.mono {w : World} {B B' : Nat} {vk vb : Value} {s : Scm} {xs : List Value} (h : OwnS w B vk vb s xs) (hB : B' ≤ B) : OwnS w B' vk vb s xs := ⟨h.n.mono hB, h.o.mono hB, h.b.mono hB, h.k, h.d⟩
set_option maxRecDepth 100000 in
set_option maxHeartbeats 16000000 in
theorem cDoO_any (s : Scm) (c : Chg) (vk vb vo vf : Value) (w : World) (hS : ScmR w vk vb s) (hC : ChgR w vo vf c) (ho : c.kind.ofs.length ≤ 1048576) (hf : c.kind.fields.length ≤ 1048576) :
    Calls Try.prog 8 #[.agg #[vk, vb], .agg (chgCells c vo vf)] w (RetSO (cdoS s c) (cdoE s c) w) := by
  obtain ⟨Ak, ck, rfl, _, _⟩ := hS.1.form
  obtain ⟨Ab, cb, rfl, _, _⟩ := hS.2.form
  obtain ⟨Ao, co, rfl, _, _⟩ := hC.ko.form
  obtain ⟨Af, cf, rfl, _, _⟩ := hC.kf.form
  obtain ⟨cE, hcE⟩ : ∃ x, x = chgE s c := ⟨_, rfl⟩
  obtain ⟨cS, hcS⟩ : ∃ x, x = chgS s c := ⟨_, rfl⟩
  obtain ⟨dE, hdE⟩ : ∃ x, x = cdoE s c := ⟨_, rfl⟩
  obtain ⟨dS, hdS⟩ : ∃ x, x = cdoS s c := ⟨_, rfl⟩
  have HDE : Hid (dE = if (scmE s).2 = 0 then (if cE = 0 then (scmE cS).2 else cE) else (scmE s).2) := by rw [hdE, hcE, hcS]; rfl
  have HDS : Hid (dS = if dE = 0 then cS else ⟨[], []⟩) := by rw [hdS, hdE, hcS]; rfl
  have HDO : Hid (∀ (bs : Nat) (vk vb : Value) (xs : List Value) (B : Nat) (W : World), Below w.heap.size w W → B ≤ W.heap.size → SW W B bs vk vb s xs → ScmOk s →
      Calls Try.prog 31 #[.pointer (some ⟨bs, 0, none⟩), .agg (chgCells c (.slice Ao c.kind.ofs.length co) (.slice Af c.kind.fields.length cf))] W (RetSW B bs cS cE W)) := fun bs vk vb xs B W h0 h1 h2 h3 => by
    rw [hcE, hcS]
    exact cdo_any s c bs vk vb _ _ xs B W h1 h2 (hC.below h0) (by have := h3.r.len; omega) (by have := h3.bl; omega) (fun d hd => ⟨(h3.r.flds hd).2.1, by have := (h3.r.flds hd).2.2; omega⟩) ho hf
  rw [← hdE, ← hdS]
  clear hcE hcS hdE hdS ho hf hC
  obtain ⟨what, name, kind, bond, fld, val, tow⟩ := c
  show Calls Try.prog 8 #[.agg #[.slice Ak s.kinds.length ck, .slice Ab s.bonds.length cb], .agg 
    #[.int .i64 what, .string name, .string kind.name, .slice Ao kind.ofs.length co, .slice Af kind.fields.length cf, .string bond.name, .string bond.src, .string bond.dst, .int .i64 bond.mn, .int .i64 bond.mx, .string fld.name, .int .i64 fld.ty, .bool fld.must, .bool fld.key, .int .i64 val.ty, .int .i64 val.n, .string val.s, .string tow]] w _
  have HDO2 : Hid (∀ (bs : Nat) (vk vb : Value) (xs : List Value) (B : Nat) (W : World), Below w.heap.size w W → B ≤ W.heap.size → SW W B bs vk vb s xs → ScmOk s →
      Calls Try.prog 31 #[.pointer (some ⟨bs, 0, none⟩), .agg 
    #[.int .i64 what, .string name, .string kind.name, .slice Ao kind.ofs.length co, .slice Af kind.fields.length cf, .string bond.name, .string bond.src, .string bond.dst, .int .i64 bond.mn, .int .i64 bond.mx, .string fld.name, .int .i64 fld.ty, .bool fld.must, .bool fld.key, .int .i64 val.ty, .int .i64 val.n, .string val.s, .string tow]] W (RetSW B bs cS cE W)) := HDO.out
  clear HDO
  obtain ⟨W0, hW0⟩ : ∃ W0, W0 = (((w.alloc (.cells #[.slice Ak s.kinds.length ck, .slice Ab s.bonds.length cb] 25)).alloc (.cells #[.int .i64 what, .string name, .string kind.name, .slice Ao kind.ofs.length co, .slice Af kind.fields.length cf, .string bond.name, .string bond.src, .string bond.dst, .int .i64 bond.mn, .int .i64 bond.mx, .string fld.name, .int .i64 fld.ty, .bool fld.must, .bool fld.key, .int .i64 val.ty, .int .i64 val.n, .string val.s, .string tow] 37)).alloc (.cells #[.slice none 0 0, .slice none 0 0] 25)) := ⟨_, rfl⟩
  have hb0 : Below w.heap.size w W0 := by rw [hW0]; exact (((Below.refl _ _).alloc (Nat.le_refl _) _).alloc (by simp) _).alloc (by simp; omega) _
  have g0 : W0.heap[w.heap.size]? = some (.cells #[.slice Ak s.kinds.length ck, .slice Ab s.bonds.length cb] 25 (0, 0)) := by
    rw [hW0, Below.heap_alloc _ _ _ (by simp; omega), Below.heap_alloc _ _ _ (by simp)]; exact heap_alloc_new _ _
  have g1 : W0.heap[w.heap.size + 1]? = some (.cells #[.int .i64 what, .string name, .string kind.name, .slice Ao kind.ofs.length co, .slice Af kind.fields.length cf, .string bond.name, .string bond.src, .string bond.dst, .int .i64 bond.mn, .int .i64 bond.mx, .string fld.name, .int .i64 fld.ty, .bool fld.must, .bool fld.key, .int .i64 val.ty, .int .i64 val.n, .string val.s, .string tow] 37 (0, 0)) := by
    rw [hW0, Below.heap_alloc _ _ _ (by simp)]
    have := heap_alloc_new (w.alloc (.cells #[.slice Ak s.kinds.length ck, .slice Ab s.bonds.length cb] 25)) (.cells #[.int .i64 what, .string name, .string kind.name, .slice Ao kind.ofs.length co, .slice Af kind.fields.length cf, .string bond.name, .string bond.src, .string bond.dst, .int .i64 bond.mn, .int .i64 bond.mx, .string fld.name, .int .i64 fld.ty, .bool fld.must, .bool fld.key, .int .i64 val.ty, .int .i64 val.n, .string val.s, .string tow] 37); simpa using this
  have g2 : W0.heap[w.heap.size + 1 + 1]? = some (.cells #[.slice none 0 0, .slice none 0 0] 25 (0, 0)) := by
    have := heap_alloc_new ((w.alloc (.cells #[.slice Ak s.kinds.length ck, .slice Ab s.bonds.length cb] 25)).alloc (.cells #[.int .i64 what, .string name, .string kind.name, .slice Ao kind.ofs.length co, .slice Af kind.fields.length cf, .string bond.name, .string bond.src, .string bond.dst, .int .i64 bond.mn, .int .i64 bond.mx, .string fld.name, .int .i64 fld.ty, .bool fld.must, .bool fld.key, .int .i64 val.ty, .int .i64 val.n, .string val.s, .string tow] 37)) (.cells #[.slice none 0 0, .slice none 0 0] 25); rw [hW0]; simpa using this
  have hsz : W0.heap.size = w.heap.size + 3 := by rw [hW0]; simp
  have hW0' := hW0.symm
  have HG := Lib.hid (hS.below hb0)
  have hck := sright_any s _ _ W0 (hS.below hb0)
  have x0 := block_cell g0 0
  have x1 := block_cell g0 1
  clear hS hW0
  go_enter Try.func8, Try.ntmps8
  go_wp2_with fail
  refine hck.mono ?_
  clear hck
  rintro e w1 ⟨rfl, hb1⟩
  have hB1 := hb0.trans (hb1.mono hb0.size)
  have m0 := (hb1.block _ (Array.getElem?_eq_some_iff.1 g0).1).trans g0
  have m1 := (hb1.block _ (Array.getElem?_eq_some_iff.1 g1).1).trans g1
  have m2 := (hb1.block _ (Array.getElem?_eq_some_iff.1 g2).1).trans g2
  have hs1 := hb1.size
  clear g0 g1 g2 x0 x1
  generalize hz : (scmE s).2 = z at *
  have HZ := Lib.hid hz
  clear hz
  by_cases he : z = 0
  case neg =>
    have HEE : Hid (errV dE = .iface 98 (.int .i64 z) ∧ dS = ⟨[], []⟩) := by
      have h0 : dE = z := by rw [HDE.out, if_neg he]
      exact ⟨by rw [h0]; exact errV_some he, by rw [HDS.out, h0, if_neg he]⟩
    rw [errV_some he]
    clear he HDE HDS
    have a5 := block_free m2 0
    have a6 := block_free m2 1
    have a7 := block_cell m2 0
    have a8 := block_cell m2 1
    have HP4 := Lib.hid (setCell_block (setCell_block m2 0 (.slice none 0 0)) 1 (.slice none 0 0))
    clear m2
    go_wp2_with fail
    have k2 := block_cell HP4.out 0
    have k3 := block_cell HP4.out 1
    exact bodyPost_ret (v := .tuple #[.agg #[.slice none 0 0, .slice none 0 0], .iface 98 (.int .i64 (z))]) (by simp [results, Try.results8, go_sem, k2, k3]) rfl
      ⟨.slice none 0 0, .slice none 0 0, [], by rw [HEE.out.1], by rw [HEE.out.2]; exact OwnS.none _ _, (hB1.setCell (p := ⟨w.heap.size + 1 + 1, 0, none⟩) (by show w.heap.size ≤ w.heap.size + 1 + 1; omega) _).setCell (p := ⟨w.heap.size + 1 + 1, 1, none⟩) (by show w.heap.size ≤ w.heap.size + 1 + 1; omega) _⟩
  have HOK : Hid (ScmOk s) := scmE_zero (HZ.out.trans he)
  have HDE2 : Hid (dE = if cE = 0 then (scmE cS).2 else cE) := by unfold Hid; rw [HDE.out, if_pos he]
  rw [errV_zero he]
  have hown := ownSchema_any s _ _ w1 (HG.out.below hb1) (by have := HOK.out.r.len; omega) (by have := HOK.out.bl; omega) (fun d hd => by
    obtain ⟨i, hi⟩ := List.mem_iff_getElem?.1 hd
    have h := HOK.out.r.one i d hi
    have h1 := h.ofl
    have h2 := h.fll
    omega)
  have x0 := block_cell m0 0
  have x1 := block_cell m0 1
  have M0 := Lib.hid m0
  have M1 := Lib.hid m1
  have M2 := Lib.hid m2
  have HBB := Lib.hid hB1
  clear he HDE m0 m1 m2 hb0 hb1 hB1 HG HZ hsz
  go_upto_region 4 with fail
  go_wp2_with fail
  refine hown.mono ?_
  clear hown
  rintro e w2 ⟨un, ut, xs, rfl, ho2, hb2⟩
  obtain ⟨A2, c2, rfl, _, _⟩ := ho2.n.form
  obtain ⟨A3, c3, rfl, _, _⟩ := ho2.b.form
  have n0 := (hb2.block _ (Array.getElem?_eq_some_iff.1 M0.out).1).trans M0.out
  have n1 := Lib.hid ((hb2.block _ (Array.getElem?_eq_some_iff.1 M1.out).1).trans M1.out)
  have n2 := Lib.hid ((hb2.block _ (Array.getElem?_eq_some_iff.1 M2.out).1).trans M2.out)
  have q0 := block_cell n0 0
  have q1 := block_cell n0 1
  have f0 := block_free n0 0
  have f1 := block_free n0 1
  obtain ⟨W3, hW3⟩ : ∃ W3, W3 = (w2.setCell ⟨w.heap.size, 0, none⟩ (.slice A2 s.kinds.length c2)).setCell ⟨w.heap.size, 1, none⟩ (.slice A3 s.bonds.length c3) := ⟨_, rfl⟩
  have hp1 := setCell_block n0 0 (.slice A2 s.kinds.length c2)
  have hp2 := setCell_block hp1 1 (.slice A3 s.bonds.length c3)
  rw [← hW3] at hp2
  have hsm : ∀ T, 25 ≠ T → Same T w2 W3 := fun T hT => by
    rw [hW3]
    exact (Same.setCell (p := ⟨w.heap.size, 0, none⟩) n0 hT _).trans (Same.setCell (p := ⟨w.heap.size, 1, none⟩) hp1 hT _)
  have hB2 : Below w.heap.size w w2 := HBB.out.trans (hb2.mono HBB.out.size)
  have hB3 : Below w.heap.size w W3 := by
    rw [hW3]; exact (hB2.setCell (p := ⟨w.heap.size, 0, none⟩) (Nat.le_refl _) _).setCell (p := ⟨w.heap.size, 1, none⟩) (Nat.le_refl _) _
  have hs3 : W3.heap.size = w2.heap.size := by rw [hW3]; simp [World.setCell]
  have p1 := (show W3.heap[w.heap.size + 1]? = w2.heap[w.heap.size + 1]? by rw [hW3, Below.heap_setCell _ _ _ _ (by show w.heap.size + 1 ≠ w.heap.size; omega), Below.heap_setCell _ _ _ _ (by show w.heap.size + 1 ≠ w.heap.size; omega)]).trans n1.out
  have p2 := (show W3.heap[w.heap.size + 1 + 1]? = w2.heap[w.heap.size + 1 + 1]? by rw [hW3, Below.heap_setCell _ _ _ _ (by show w.heap.size + 1 + 1 ≠ w.heap.size; omega), Below.heap_setCell _ _ _ _ (by show w.heap.size + 1 + 1 ≠ w.heap.size; omega)]).trans n2.out
  have hSW : SW W3 w.heap.size w.heap.size (.slice A2 s.kinds.length c2) (.slice A3 s.bonds.length c3) s xs := ⟨hp2, (ho2.same (hsm _ (by decide)) (hsm _ (by decide)) (hsm _ (by decide)) (hsm _ (by decide))).mono HBB.out.size, Nat.le_refl _⟩
  have hdo := HDO2.out w.heap.size _ _ xs w.heap.size W3 hB3 hB3.size hSW HOK.out
  have HB3 := Lib.hid hB3
  have hW3' := hW3.symm
  have P1 := Lib.hid p1
  have P2 := Lib.hid p2
  clear hW3 hp1 hp2 hsm ho2 hb2 hB2 hB3 hSW p1 p2 n0 n1 n2 M0 M1 M2 HBB HDO2 HOK x0 x1
  go_upto_region 5 with fail
  rw [hW3'] at *
  clear q0 q1 f0 f1 hW3' hs3
  go_wp2_with (with_reducible refine wpList_load_row rfl 37 _ rfl _ rfl 37 _ (0, 0) _ P1.out Try.underlying37 rfl (by kernel_rfl) ?_)
  refine hdo.mono ?_
  clear hdo
  rintro e w4 ⟨rfl, hsw, hb4, hsch, hsz4⟩
  have P4 := Lib.hid (hsch _ _ _ (by omega) P2.out)
  have HB4 := Lib.hid (HB3.out.trans hb4)
  have HSW := Lib.hid hsw
  clear hsw hb4 hsch hsz4 P1 P2 HB3
  by_cases he : cE = 0
  case neg =>
    have HEE : Hid (errV dE = .iface 98 (.int .i64 cE) ∧ dS = ⟨[], []⟩) := by
      have h0 : dE = cE := by rw [HDE2.out, if_neg he]
      exact ⟨by rw [h0]; exact errV_some he, by rw [HDS.out, h0, if_neg he]⟩
    rw [errV_some he]
    clear he HDE2 HDS
    have a5 := block_free P4.out 0
    have a6 := block_free P4.out 1
    have a7 := block_cell P4.out 0
    have a8 := block_cell P4.out 1
    have HP4 := Lib.hid (setCell_block (setCell_block P4.out 0 (.slice none 0 0)) 1 (.slice none 0 0))
    clear HSW
    go_wp2_with fail
    have k2 := block_cell HP4.out 0
    have k3 := block_cell HP4.out 1
    exact bodyPost_ret (v := .tuple #[.agg #[.slice none 0 0, .slice none 0 0], .iface 98 (.int .i64 (cE))]) (by simp [results, Try.results8, go_sem, k2, k3]) rfl
      ⟨.slice none 0 0, .slice none 0 0, [], by rw [HEE.out.1], by rw [HEE.out.2]; exact OwnS.none _ _, (HB4.out.setCell (p := ⟨w.heap.size + 1 + 1, 0, none⟩) (by show w.heap.size ≤ w.heap.size + 1 + 1; omega) _).setCell (p := ⟨w.heap.size + 1 + 1, 1, none⟩) (by show w.heap.size ≤ w.heap.size + 1 + 1; omega) _⟩
  obtain ⟨vk, vb, ys, hsw⟩ := HSW.out he
  have HDE3 : Hid (dE = (scmE cS).2) := by unfold Hid; rw [HDE2.out, if_pos he]
  rw [errV_zero he]
  obtain ⟨A4, c4, hv4, _, _⟩ := hsw.o.n.form
  obtain ⟨A5, c5, hv5, _, _⟩ := hsw.o.b.form
  generalize hn4 : cS.kinds.length = n4 at *
  generalize hn5 : cS.bonds.length = n5 at *
  subst hv4
  subst hv5
  have HN : Hid (OwnS w4 w.heap.size (.slice A4 n4 c4) (.slice A5 n5 c5) cS ys) := hsw.o
  have x0 := block_cell hsw.q 0
  have x1 := block_cell hsw.q 1
  have HQ := Lib.hid hsw.q
  have hck := sright_any cS _ _ w4 HN.out.r
  generalize hz : (scmE cS).2 = z2 at *
  clear hsw HSW HDE2 he hn4 hn5 hz
  go_upto_region 8 with fail
  go_wp2_with fail
  refine hck.mono ?_
  clear hck
  rintro e w5 ⟨rfl, hb5⟩
  have P5 := Lib.hid ((hb5.block _ (Array.getElem?_eq_some_iff.1 P4.out).1).trans P4.out)
  have HB5 := Lib.hid (HB4.out.trans (hb5.mono HB4.out.size))
  have x0 := cell_below hb5 x0
  have x1 := cell_below hb5 x1
  have HN5 := Lib.hid (HN.out.below hb5)
  clear hb5 HB4 P4 HN HQ
  by_cases he : z2 = 0
  case neg =>
    have HEE : Hid (errV dE = .iface 98 (.int .i64 z2) ∧ dS = ⟨[], []⟩) := by
      exact ⟨by rw [HDE3.out]; exact errV_some he, by rw [HDS.out, HDE3.out, if_neg he]⟩
    rw [errV_some he]
    clear he HDE3 HDS
    have a5 := block_free P5.out 0
    have a6 := block_free P5.out 1
    have a7 := block_cell P5.out 0
    have a8 := block_cell P5.out 1
    have HP4 := Lib.hid (setCell_block (setCell_block P5.out 0 (.slice none 0 0)) 1 (.slice none 0 0))
    clear HN5
    go_wp2_with fail
    have k2 := block_cell HP4.out 0
    have k3 := block_cell HP4.out 1
    exact bodyPost_ret (v := .tuple #[.agg #[.slice none 0 0, .slice none 0 0], .iface 98 (.int .i64 (z2))]) (by simp [results, Try.results8, go_sem, k2, k3]) rfl
      ⟨.slice none 0 0, .slice none 0 0, [], by rw [HEE.out.1], by rw [HEE.out.2]; exact OwnS.none _ _, (HB5.out.setCell (p := ⟨w.heap.size + 1 + 1, 0, none⟩) (by show w.heap.size ≤ w.heap.size + 1 + 1; omega) _).setCell (p := ⟨w.heap.size + 1 + 1, 1, none⟩) (by show w.heap.size ≤ w.heap.size + 1 + 1; omega) _⟩
  have HEE : Hid (errV dE = .nilIface ∧ dS = cS) := by
    exact ⟨by rw [HDE3.out]; exact errV_zero he, by rw [HDS.out, HDE3.out, if_pos he]⟩
  rw [errV_zero he]
  have f0 := block_free P5.out 0
  have f1 := block_free P5.out 1
  have f2 := block_cell P5.out 0
  have f3 := block_cell P5.out 1
  have hp6 := setCell_block P5.out 0 (.slice A4 n4 c4)
  have HP6 := Lib.hid (setCell_block hp6 1 (.slice A5 n5 c5))
  have HSM : Hid (∀ T, 25 ≠ T → Same T w5 ((w5.setCell ⟨w.heap.size + 1 + 1, 0, none⟩ (.slice A4 n4 c4)).setCell ⟨w.heap.size + 1 + 1, 1, none⟩ (.slice A5 n5 c5))) := fun T hT =>
    (Same.setCell (p := ⟨w.heap.size + 1 + 1, 0, none⟩) P5.out hT _).trans (Same.setCell (p := ⟨w.heap.size + 1 + 1, 1, none⟩) hp6 hT _)
  clear hp6
  clear he HDE3 HDS
  go_wp2_with fail
  have k2 := block_cell HP6.out 0
  have k3 := block_cell HP6.out 1
  exact bodyPost_ret (v := .tuple #[.agg #[.slice A4 n4 c4, .slice A5 n5 c5], .nilIface]) (by simp [results, Try.results8, go_sem, k2, k3]) rfl
    ⟨.slice A4 n4 c4, .slice A5 n5 c5, ys, by rw [HEE.out.1], by rw [HEE.out.2]; exact HN5.out.same (HSM.out _ (by decide)) (HSM.out _ (by decide)) (HSM.out _ (by decide)) (HSM.out _ (by decide)), (HB5.out.setCell (p := ⟨w.heap.size + 1 + 1, 0, none⟩) (by show w.heap.size ≤ w.heap.size + 1 + 1; omega) _).setCell (p := ⟨w.heap.size + 1 + 1, 1, none⟩) (by show w.heap.size ≤ w.heap.size + 1 + 1; omega) _⟩
theorem cDo_any (s : Scm) (c : Chg) (vk vb vo vf : Value) (w : World) (hS : ScmR w vk vb s) (hC : ChgR w vo vf c) (ho : c.kind.ofs.length ≤ 1048576) (hf : c.kind.fields.length ≤ 1048576) :
    Calls Try.prog 8 #[.agg #[vk, vb], .agg (chgCells c vo vf)] w (RetSS (cdoS s c) (cdoE s c) w) :=
  (cDoO_any s c vk vb vo vf w hS hC ho hf).mono fun _ _ ⟨a, b, xs, h1, h2, h3⟩ => ⟨a, b, h1, h2.r, h3⟩
end Go.Proofs.Ytldonhgcifhpgaa
