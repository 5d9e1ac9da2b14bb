/- Parts: DifC, DifD, Srow. -/
import Derived.Test.YtpjnbikkhfnjbaaMg19
import Derived.Laws.EntriesVeiled
import Derived.Deep.DeepCutAuto
import Derived.Test.YtpjnbikkhfnjbaaMg01
import Derived.Laws.Rows
import Derived.Laws.CopyRow
/- Contract: diff.fields. No condition. -/
namespace Go.Proofs.Ytpjnbikkhfnjbaa
open Go Go.RowKit



theorem fieldsW_no {a b : List Fld} {x : Fld} (hx : x ∈ a) (h : okF b x = false) : fieldsW a b = false := by
  unfold fieldsW
  have : a.all (okF b) = false := List.all_eq_false.2 ⟨x, hx, by simp [h]⟩
  rw [this]; rfl
theorem all_of {D : Type} {l : List D} {p : D → Bool} (h : ∀ j x, j < l.length → l[j]? = some x → p x = true) : l.all p = true := by
  rw [List.all_eq_true]
  intro x hx
  obtain ⟨j, hj⟩ := List.mem_iff_getElem?.1 hx
  exact h j x (List.getElem?_eq_some_iff.1 hj).1 hj
theorem hit_step {D : Type} {l : List D} {p : D → Bool} {k : Nat} {d : D} (h : ∀ j x, j < k → l[j]? = some x → p x = true) (hd : l[k]? = some d) (hp : p d = true) : ∀ j x, j < k + 1 → l[j]? = some x → p x = true := fun j x hj hx => by
  by_cases e : j = k
  · subst e; rw [hd] at hx; injection hx with hx; rw [← hx]; exact hp
  · exact h j x (by omega) hx
set_option maxRecDepth 100000 in
set_option maxHeartbeats 8000000 in
theorem dfields_any (a b : List Fld) (va vb : Value) (w : World) (ha : Sl fldL w va a) (hb : Sl fldL w vb b) :
    Calls Try.prog 9 #[va, vb] w fun e w' => e = .returned (.bool (fieldsW a b)) ∧ Below w.heap.size w w' := by
  obtain ⟨A, ca, rfl, _, hcm⟩ := ha.form
  obtain ⟨B, cb, rfl, _, hdm⟩ := hb.form
  unfold maxLen at hcm hdm
  obtain ⟨W0, hW0⟩ : ∃ W0, W0 = (w.alloc (.cells #[.slice A a.length ca] 32)).alloc (.cells #[.func (.func 18) #[] #[]] 60) := ⟨_, rfl⟩
  have hb0 : Below w.heap.size w W0 := by rw [hW0]; exact ((Below.refl _ _).alloc (Nat.le_refl _) _).alloc (by simp) _
  have g0 : W0.heap[w.heap.size]? = some (.cells #[.slice A a.length ca] 32 (0, 0)) := by
    rw [hW0, Below.heap_alloc _ _ _ (by simp)]; exact heap_alloc_new _ _
  have g1 : W0.heap[w.heap.size + 1]? = some (.cells #[.func (.func 18) #[] #[]] 60 (0, 0)) := by
    have := heap_alloc_new (w.alloc (.cells #[.slice A a.length ca] 32)) (.cells #[.func (.func 18) #[] #[]] 60); rw [hW0]; simpa using this
  have hW0' := hW0.symm
  have x0 := block_cell g0 0
  have y0 := block_cell g1 0
  have HA := Lib.hid (ha.below hb0)
  have HB := Lib.hid (hb.below hb0)
  have hw0 := hb0.size
  have HFW : Hid (fieldsW a b = (a.all (okF b) && !(b.any fun f => f.must && decide (fFind a f.name < 0)))) := rfl
  clear ha hb hW0 g0 g1
  go_enter Try.func9, Try.ntmps9
  go_wp2_with fail
  clear hW0'
  go_loopw [11] (fun i wr => ∃ k : Nat, k ≤ a.length ∧ i = .int .i64 k ∧ Below W0.heap.size W0 wr ∧ Hid (∀ j x, j < k → a[j]? = some x → okF b x = true)) (fun i _ => a.length - (intOf i).toNat)
  case atStart => exact ⟨0, Nat.zero_le _, rfl, Below.refl _ _, fun j x hj => absurd hj (Nat.not_lt_zero _)⟩
  case round =>
    obtain ⟨k, hk, rfl, hbr, HP⟩ := hrel
    have x0 := cell_below hbr x0
    have y0 := cell_below hbr y0
    by_cases hlt : k < a.length
    · obtain ⟨f, hd⟩ : ∃ d, a[k]? = some d := ⟨_, List.getElem?_eq_getElem hlt⟩
      obtain ⟨bb, o, rfl, hok, q0, q1, q2, q3⟩ := fld_at (HA.out.below hbr) hd
      have HD := Lib.hid hd
      have hlt' : (k : Int) < (a.length : Int) := by omega
      obtain ⟨z0, z1, z2, z3⟩ := cell_box4 wr (.string f.name) (.int .i64 f.ty) (.bool f.must) (.bool f.key) 31
      have ha1 : Below wr.heap.size wr (wr.alloc (.cells #[.string f.name, .int .i64 f.ty, .bool f.must, .bool f.key] 31)) := (Below.refl _ _).alloc (Nat.le_refl _) _
      have hbb := hbr.trans (ha1.mono hbr.size)
      have hcall := fFind_any b f.name _ _ (HB.out.below hbb)
      have hkc := fFind_cases b f.name
      have y0' := cell_below ha1 y0
      have HKN : Hid (fFind b f.name < 0 → okF b f = false) := okF_neg
      have HKA : Hid (∀ (i : Nat) x, fFind b f.name = i → b[i]? = some x → okF b f = (decide (x.ty = f.ty) && !(x.must && !f.must) && !(x.key && !f.key))) := fun i x h hx => okF_at h hx
      clear hd hok y0
      go_upto_region 5 with fail
      generalize wr.alloc (.cells #[.string f.name, .int .i64 f.ty, .bool f.must, .bool f.key] 31) = Wa at *
      generalize fFind b f.name = fz at *
      go_wp2_with fail
      refine hcall.mono ?_
      clear hcall
      rintro e w3 ⟨rfl, hb3⟩
      have z1 := cell_below hb3 z1
      have z2 := cell_below hb3 z2
      have z3 := cell_below hb3 z3
      have hb13 := hbb.trans (hb3.mono hbb.size)
      have hB3 := hb0.trans (hb13.mono hw0)
      clear y0' hb3 ha1 z0 x0 q0 q1 q2 q3
      rcases hkc with hn | ⟨i, d, rfl, hd2⟩
      · have hq := HKN.out hn
        have hn' : decide (fz < 0) = true := decide_eq_true hn
        have HF : Hid (fieldsW a b = false) := fieldsW_no (List.mem_of_getElem? HD.out) (hq)
        clear HFW HKN HKA HD
        go_wp2_with fail
        go_quiet (fail)
        go_wp2_with fail
        go_ret
        exact ⟨by rw [HF.out]; rfl, below_drewN hB3 _⟩
      · have hqe := HKA.out i d rfl hd2
        have hi := (List.getElem?_eq_some_iff.1 hd2).1
        have hi' : (i : Int) < (b.length : Int) := by omega
        have hn0 : decide ((i : Int) < 0) = false := decide_eq_false (by omega)
        obtain ⟨b3, o3, rfl, _, p0, p1, p2, p3⟩ := fld_at (HB.out.below hb13) hd2
        have HQE := Lib.hid hqe
        clear hqe hd2
        by_cases ht : d.ty = f.ty
        case neg =>
          have ht2 : (d.ty != f.ty) = true := by rw [bne_iff_ne]; exact ht
          have HZ : Hid (okF b f = false) := by unfold Hid; rw [HQE.out, decide_eq_false ht]; rfl
          clear ht HQE
          have HF : Hid (fieldsW a b = false) := fieldsW_no (List.mem_of_getElem? HD.out) (HZ.out)
          clear HFW HKN HKA HD
          go_wp2_with fail
          go_quiet (fail)
          go_wp2_with fail
          go_ret
          exact ⟨by rw [HF.out]; rfl, below_drewN hB3 _⟩
        have ht2 : (d.ty != f.ty) = false := by rw [bne_eq_false_iff_eq]; exact ht
        have HQ2 : Hid (okF b f = (!(d.must && !f.must) && !(d.key && !f.key))) := by unfold Hid; rw [HQE.out, decide_eq_true ht, Bool.true_and]
        clear ht HQE
        generalize d.must = m1 at *
        generalize d.key = k1 at *
        generalize f.must = m2 at *
        generalize f.key = k2 at *
        cases m1 with
        | true =>
          cases m2 with
          | false =>
            have HF : Hid (fieldsW a b = false) := fieldsW_no (List.mem_of_getElem? HD.out) (HQ2.out)
            clear HFW HKN HKA HD
            go_wp2_with fail
            go_quiet (fail)
            go_wp2_with fail
            go_ret
            exact ⟨by rw [HF.out]; rfl, below_drewN hB3 _⟩
          | true =>
            cases k1 with
            | true =>
              cases k2 with
              | false =>
                have HF : Hid (fieldsW a b = false) := fieldsW_no (List.mem_of_getElem? HD.out) (HQ2.out)
                clear HFW HKN HKA HD
                go_wp2_with fail
                go_quiet (fail)
                go_wp2_with fail
                go_ret
                exact ⟨by rw [HF.out]; rfl, below_drewN hB3 _⟩
              | true =>
                have HS : Hid (∀ j x, j < k + 1 → a[j]? = some x → okF b x = true) := hit_step HP.out HD.out (HQ2.out)
                clear HKN HKA HD
                go_wp2_with fail
                go_quiet (fail)
                go_wp2_with fail
                go_roundw
                case rel => exact ⟨k + 1, by omega, by go_num, below_drewN hb13 _, HS⟩
                case measure => simp [intOf]; omega
            | false =>
              have HS : Hid (∀ j x, j < k + 1 → a[j]? = some x → okF b x = true) := hit_step HP.out HD.out (HQ2.out)
              clear HKN HKA HD
              go_wp2_with fail
              go_quiet (fail)
              go_wp2_with fail
              go_roundw
              case rel => exact ⟨k + 1, by omega, by go_num, below_drewN hb13 _, HS⟩
              case measure => simp [intOf]; omega
        | false =>
          cases k1 with
          | true =>
            cases k2 with
            | false =>
              have HF : Hid (fieldsW a b = false) := fieldsW_no (List.mem_of_getElem? HD.out) (HQ2.out)
              clear HFW HKN HKA HD
              go_wp2_with fail
              go_quiet (fail)
              go_wp2_with fail
              go_ret
              exact ⟨by rw [HF.out]; rfl, below_drewN hB3 _⟩
            | true =>
              have HS : Hid (∀ j x, j < k + 1 → a[j]? = some x → okF b x = true) := hit_step HP.out HD.out (HQ2.out)
              clear HKN HKA HD
              go_wp2_with fail
              go_quiet (fail)
              go_wp2_with fail
              go_roundw
              case rel => exact ⟨k + 1, by omega, by go_num, below_drewN hb13 _, HS⟩
              case measure => simp [intOf]; omega
          | false =>
            have HS : Hid (∀ j x, j < k + 1 → a[j]? = some x → okF b x = true) := hit_step HP.out HD.out (HQ2.out)
            clear HKN HKA HD
            go_wp2_with fail
            go_quiet (fail)
            go_wp2_with fail
            go_roundw
            case rel => exact ⟨k + 1, by omega, by go_num, below_drewN hb13 _, HS⟩
            case measure => simp [intOf]; omega
    · obtain rfl : k = a.length := by omega
      have HQ : Hid (fieldsW a b = !(b.any fun f => f.must && decide (fFind a f.name < 0))) := by
        unfold Hid; rw [HFW.out, all_of HP.out, Bool.true_and]
      have hcall := cont_flds 22 #[.pointer (some ⟨w.heap.size + 1, 0, none⟩), .pointer (some ⟨w.heap.size, 0, none⟩)] (by intro args w; kernel_rfl) (fun f => f.must && decide (fFind a f.name < 0)) b _ wr (HB.out.below hbr)
        (fun d u wx hx hu => ff2_any a d u _ _ _ wx hu ((HA.out.below hbr).below hx) (cell_below hx y0) (cell_below hx x0))
      have hBr := hb0.trans (hbr.mono hw0)
      generalize (b.any fun f => f.must && decide (fFind a f.name < 0)) = q at *
      go_wp2_with fail
      refine hcall.mono ?_
      clear hcall
      rintro e w5 ⟨rfl, hb5⟩
      go_wp2_with fail
      go_ret
      exact ⟨by rw [HQ.out]; rfl, hBr.trans (hb5.mono hBr.size)⟩
end Go.Proofs.Ytpjnbikkhfnjbaa

/- Contract: diff.Wider. No condition. -/
namespace Go.Proofs.Ytpjnbikkhfnjbaa
open Go Go.RowKit


theorem wd1_any (a : Scm) (d : Bnd) (u vk vb : Value) (bk : Nat) (w : World) (hu : bndV w d u) (ha : ScmR w vk vb a) (hq : w.heap[bk]? = some (.cells #[vk, vb] 25 (0, 0))) :
    Calls Try.prog 13 #[u, .pointer (some ⟨bk, 0, none⟩)] w fun e w' => e = .returned (.bool (decide (bFind a.bonds d.name < 0) && decide (0 < d.mn))) ∧ Below w.heap.size w w' := by
  obtain rfl : u = _ := hu
  obtain ⟨A1, c1, rfl, _, _⟩ := ha.1.form
  obtain ⟨A2, c2, rfl, _, _⟩ := ha.2.form
  have hb0 : Below w.heap.size w (w.alloc (.cells #[.string d.name, .string d.src, .string d.dst, .int .i64 d.mn, .int .i64 d.mx] 47)) := (Below.refl _ _).alloc (Nat.le_refl _) _
  have hq' := (hb0.block _ (Array.getElem?_eq_some_iff.1 hq).1).trans hq
  obtain ⟨z0, z1, z2, z3, z4⟩ := cell_box5 w (.string d.name) (.string d.src) (.string d.dst) (.int .i64 d.mn) (.int .i64 d.mx) 47
  have x0 := block_cell hq' 0
  have x1 := block_cell hq' 1
  have hcall := sFind_any a d.name _ _ _ (ScmR.below hb0 ha)
  have hk := (Array.getElem?_eq_some_iff.1 hq).1
  generalize bFind a.bonds d.name = z at *
  clear ha hq hq'
  by_cases hz : z < 0
  · have hz' : decide (z < 0) = true := decide_eq_true hz
    rw [hz']
    clear hz
    have hw := hb0.size
    go_enter Try.func13, Try.ntmps13
    go_wp2_with fail
    refine hcall.mono ?_
    clear hcall
    rintro e w2 ⟨rfl, hb2⟩
    have z3 := cell_below hb2 z3
    have hB := hb0.trans (hb2.mono hw)
    cases e3 : decide (0 < d.mn)
    all_goals
      go_wp2_with fail
      go_ret
      exact ⟨by rw [e3]; rfl, hB⟩
  · have hz' : decide (z < 0) = false := decide_eq_false hz
    rw [hz']
    clear hz
    have hw := hb0.size
    go_enter Try.func13, Try.ntmps13
    go_wp2_with fail
    refine hcall.mono ?_
    clear hcall
    rintro e w2 ⟨rfl, hb2⟩
    have hB := hb0.trans (hb2.mono hw)
    go_wp2_with fail
    go_ret
    exact ⟨rfl, hB⟩
theorem kindW_neg {l : List Knd} {k : Knd} (h : kFind l k.name < 0) : kindW l k = false := by
  unfold kindW; split
  · simp [h]
  · rfl
theorem kindW_at {l : List Knd} {k d : Knd} {i : Nat} (h : kFind l k.name = i) (hd : l[i]? = some d) : kindW l k = (decide (k.ofs = d.ofs) && fieldsW k.fields d.fields) := by
  unfold kindW; rw [h, Int.toNat_natCast, hd]
  simp only
  rw [decide_eq_false (by omega)]; simp
theorem bondW_neg {l : List Bnd} {k : Bnd} (h : bFind l k.name < 0) : bondW l k = false := by
  unfold bondW; split
  · simp [h]
  · rfl
theorem bondW_at {l : List Bnd} {k d : Bnd} {i : Nat} (h : bFind l k.name = i) (hd : l[i]? = some d) : bondW l k = bondW1 k d := by
  unfold bondW; rw [h, Int.toNat_natCast, hd]
  simp only
  rw [decide_eq_false (by omega)]; simp
theorem wider_noK {a b : Scm} {x : Knd} (hx : x ∈ a.kinds) (h : kindW b.kinds x = false) : widerB a b = false := by
  unfold widerB
  have : a.kinds.all (kindW b.kinds) = false := List.all_eq_false.2 ⟨x, hx, by simp [h]⟩
  rw [this]; rfl
theorem wider_noB {a b : Scm} {x : Bnd} (hx : x ∈ a.bonds) (h : bondW b.bonds x = false) : widerB a b = false := by
  unfold widerB
  have : a.bonds.all (bondW b.bonds) = false := List.all_eq_false.2 ⟨x, hx, by simp [h]⟩
  rw [this]; simp
set_option maxRecDepth 100000 in
set_option maxHeartbeats 8000000 in
theorem wider_any (a b : Scm) (k1 b1 k2 b2 : Value) (w : World) (h1 : ScmR w k1 b1 a) (h2 : ScmR w k2 b2 b) :
    Calls Try.prog 4 #[.agg #[k1, b1], .agg #[k2, b2]] w fun e w' => e = .returned (.tuple #[.bool (widerR a b), errV (bothE a b)]) ∧ Below w.heap.size w w' := by
  obtain ⟨A1, c1, rfl, hk1, hm1⟩ := h1.1.form
  obtain ⟨A2, c2, rfl, hk2, hm2⟩ := h1.2.form
  obtain ⟨A3, c3, rfl, hk3, hm3⟩ := h2.1.form
  obtain ⟨A4, c4, rfl, hk4, hm4⟩ := h2.2.form
  unfold maxLen at hm1 hm2 hm3 hm4
  obtain ⟨W0, hW0⟩ : ∃ W0, W0 = (w.alloc (.cells #[.slice A1 a.kinds.length c1, .slice A2 a.bonds.length c2] 25)).alloc (.cells #[.slice A3 b.kinds.length c3, .slice A4 b.bonds.length c4] 25) := ⟨_, rfl⟩
  have hb0 : Below w.heap.size w W0 := by rw [hW0]; exact ((Below.refl _ _).alloc (Nat.le_refl _) _).alloc (by simp) _
  have g0 : W0.heap[w.heap.size]? = some (.cells #[.slice A1 a.kinds.length c1, .slice A2 a.bonds.length c2] 25 (0, 0)) := by
    rw [hW0, Below.heap_alloc _ _ _ (by simp)]; exact heap_alloc_new _ _
  have g1 : W0.heap[w.heap.size + 1]? = some (.cells #[.slice A3 b.kinds.length c3, .slice A4 b.bonds.length c4] 25 (0, 0)) := by
    have := heap_alloc_new (w.alloc (.cells #[.slice A1 a.kinds.length c1, .slice A2 a.bonds.length c2] 25)) (.cells #[.slice A3 b.kinds.length c3, .slice A4 b.bonds.length c4] 25); rw [hW0]; simpa using this
  have hW0' := hW0.symm
  have x0 := block_cell g0 0
  have x1 := block_cell g0 1
  have y0 := block_cell g1 0
  have y1 := block_cell g1 1
  have hbt := both_any a b _ _ _ _ W0 (h1.below hb0) (h2.below hb0)
  have H1 := Lib.hid (h1.below hb0)
  have H2 := Lib.hid (h2.below hb0)
  have hw0 := hb0.size
  have HG0 := Lib.hid g0
  have HBO : Hid (bothE a b = 0 → (scmE a).2 = 0 ∧ (scmE b).2 = 0) := by
    intro h
    unfold bothE at h
    split at h
    · rename_i h0; exact ⟨h0, h⟩
    · rename_i h0; exact absurd h h0
  have HLR : Hid (widerR a b = if bothE a b = 0 then widerB a b else false) := rfl
  generalize hz : bothE a b = z at *
  clear h1 h2 hW0 g0 g1 hz
  go_enter Try.func4, Try.ntmps4
  go_wp2_with fail
  refine hbt.mono ?_
  clear hbt hW0'
  rintro e W1 ⟨rfl, hb1⟩
  have hB1 := hb0.trans (hb1.mono hw0)
  by_cases he : z = 0
  case neg =>
    have HE : Hid (errV z = .iface 83 (.int .i64 z) ∧ widerR a b = false) := ⟨errV_some he, by rw [HLR.out, if_neg he]⟩
    rw [errV_some he]
    clear he HLR
    go_wp2_with fail
    go_ret2
    exact ⟨by rw [HE.out.1, HE.out.2]; rfl, hB1⟩
  obtain ⟨ea, eb⟩ := HBO.out he
  have ska := scmE_zero ea
  have skb := scmE_zero eb
  have la1 := ska.r.len
  have la2 := ska.bl
  have lb1 := skb.r.len
  have lb2 := skb.bl
  have la1' : (a.kinds.length : Int) ≤ 12 := by omega
  have la2' : (a.bonds.length : Int) ≤ 12 := by omega
  have HE : Hid (errV z = .nilIface ∧ widerR a b = widerB a b) := ⟨errV_zero he, by rw [HLR.out, if_pos he]⟩
  have x0 := cell_below hb1 x0
  have x1 := cell_below hb1 x1
  have y0 := cell_below hb1 y0
  have y1 := cell_below hb1 y1
  have H1 := Lib.hid (H1.out.below hb1)
  have H2 := Lib.hid (H2.out.below hb1)
  have HG1 := Lib.hid ((hb1.block _ (Array.getElem?_eq_some_iff.1 HG0.out).1).trans HG0.out)
  have HWB : Hid (widerB a b = (a.kinds.all (kindW b.kinds) && a.bonds.all (bondW b.bonds) && !(b.bonds.any fun x => decide (bFind a.bonds x.name < 0) && decide (0 < x.mn)))) := rfl
  rw [errV_zero he]
  clear he HLR HBO ea eb ska skb hb1 HG0
  go_wp2_with fail
  go_loopw [22] (fun i wr => ∃ (k : Nat), k ≤ a.kinds.length ∧ i = .int .i64 k ∧ Below W1.heap.size W1 wr ∧ Hid (∀ j x, j < k → a.kinds[j]? = some x → kindW b.kinds x = true)) (fun i _ => a.kinds.length - (intOf i).toNat)
  case atStart => exact ⟨0, Nat.zero_le _, rfl, Below.refl _ _, fun j x hj => absurd hj (Nat.not_lt_zero _)⟩
  case round =>
    obtain ⟨k, hk, rfl, hbr, HP⟩ := hrel
    have x0 := cell_below hbr x0
    have x1 := cell_below hbr x1
    have y0 := cell_below hbr y0
    have y1 := cell_below hbr y1
    by_cases hlt : k < a.kinds.length
    · obtain ⟨d, hd⟩ : ∃ d, a.kinds[k]? = some d := ⟨_, List.getElem?_eq_getElem hlt⟩
      obtain ⟨bb, o, rfl, u, x, hsm, hso, hsf, q0, q1, q2⟩ := knd_at (H1.out.below hbr).1 hd
      obtain ⟨E1, e1, rfl, _, _⟩ := hso.form
      obtain ⟨E2, e2, rfl, _, _⟩ := hsf.form
      obtain ⟨z0, z1, z2⟩ := cell_box3 wr (.string d.name) (.slice E1 d.ofs.length e1) (.slice E2 d.fields.length e2) 35
      have ha1 : Below wr.heap.size wr (wr.alloc (.cells #[.string d.name, .slice E1 d.ofs.length e1, .slice E2 d.fields.length e2] 35)) := (Below.refl _ _).alloc (Nat.le_refl _) _
      have hlt' : (k : Int) < (a.kinds.length : Int) := by omega
      have HD := Lib.hid hd
      have hbb := hbr.trans (ha1.mono hbr.size)
      have hkf := kFind_any b.kinds d.name _ _ ((H2.out.below hbb).1)
      have y0' := cell_below ha1 y0
      have HO := Lib.hid (hso.below ha1)
      have HF := Lib.hid (hsf.below ha1)
      have hkc := kFind_cases b.kinds d.name
      have HKN : Hid (kFind b.kinds d.name < 0 → kindW b.kinds d = false) := kindW_neg
      have HKA : Hid (∀ (i : Nat) x, kFind b.kinds d.name = i → b.kinds[i]? = some x → kindW b.kinds d = (decide (d.ofs = x.ofs) && fieldsW d.fields x.fields)) := fun i x h hx => kindW_at h hx
      clear hd hso hsf hsm y0 x0 x1 y1
      go_upto_region 7 with fail
      generalize wr.alloc (.cells #[.string d.name, .slice E1 d.ofs.length e1, .slice E2 d.fields.length e2] 35) = Wa at *
      generalize kFind b.kinds d.name = fz at *
      go_wp2_with fail
      refine hkf.mono ?_
      clear hkf
      rintro e w3 ⟨rfl, hb3⟩
      have y0 := cell_below hb3 y0'
      have z1 := cell_below hb3 z1
      have z2 := cell_below hb3 z2
      have hb13 := hbb.trans (hb3.mono hbb.size)
      have hB3 := hB1.trans (hb13.mono hB1.size)
      have HO := Lib.hid (HO.out.below hb3)
      have HF := Lib.hid (HF.out.below hb3)
      clear y0' hb3 ha1 z0 q0 q1 q2
      rcases hkc with hn | ⟨i, d2, rfl, hd2⟩
      · have HQ := Lib.hid (HKN.out hn)
        have hn' : decide (fz < 0) = true := decide_eq_true hn
        clear HKA HKN
        go_wp2_with fail
        go_quiet (fail)
        -- wider_noK (List.mem_of_getElem? HD.out) HQ.out: no
        have HF : Hid (widerR a b = false) := by unfold Hid; rw [HE.out.2]; exact wider_noK (List.mem_of_getElem? HD.out) HQ.out
        go_wp2_with fail
        go_ret2
        exact ⟨by rw [HF.out, HE.out.1]; rfl, below_drewN hB3 _⟩
      · have HQ := Lib.hid (HKA.out i d2 rfl hd2)
        have hi := (List.getElem?_eq_some_iff.1 hd2).1
        have hi' : (i : Int) < (b.kinds.length : Int) := by omega
        have hn0 : decide ((i : Int) < 0) = false := decide_eq_false (by omega)
        obtain ⟨b3, o3, rfl, u3, x3, hsm3, hso3, hsf3, p0, p1, p2⟩ := knd_at (H2.out.below hb13).1 hd2
        obtain ⟨E3, e3, rfl, _, _⟩ := hso3.form
        obtain ⟨E4, e4, rfl, _, _⟩ := hsf3.form
        have HF3 := Lib.hid hsf3
        have heq := fun n => eqStrs_any_q d.ofs d2.ofs _ _ (w3.drewN n) (HO.out.below (below_drewN (Below.refl _ _) n)) (hso3.below (below_drewN (Below.refl _ _) n))
        clear HKA HKN hd2 hsm3 hso3 hsf3
        by_cases hof : d.ofs = d2.ofs
        case neg =>
          have HQ2 : Hid (kindW b.kinds d = false) := by unfold Hid; rw [HQ.out, decide_eq_false hof]; rfl
          rw [decide_eq_false hof] at heq
          have HEQ := Lib.hid heq
          clear HQ hof heq
          go_wp2_with fail
          go_quiet ((go_at_call 8; exact Calls.quiet_of (HEQ.out _)))
          -- wider_noK (List.mem_of_getElem? HD.out) HQ2.out: no
          have HF : Hid (widerR a b = false) := by unfold Hid; rw [HE.out.2]; exact wider_noK (List.mem_of_getElem? HD.out) HQ2.out
          go_wp2_with fail
          go_ret2
          exact ⟨by rw [HF.out, HE.out.1]; rfl, below_drewN hB3 _⟩
        have HQ2 : Hid (kindW b.kinds d = fieldsW d.fields d2.fields) := by unfold Hid; rw [HQ.out, decide_eq_true hof, Bool.true_and]
        rw [decide_eq_true hof] at heq
        have HEQ := Lib.hid heq
        clear HQ hof heq
        go_wp2_with fail
        refine wp_mid_g 23 _ rfl rfl (by kernel_rfl) ?_
        simp only [List.take_succ_cons, List.take_zero, List.drop_succ_cons, List.drop_zero]
        repeat (go_big_quiet_step ((go_at_call 8; exact Calls.quiet_of (HEQ.out _))))
        refine wpQuiet_nil ?_
        refine ⟨by simp [Region.wanted, yielded, go_sem], ?_⟩
        intro _ hw'
        obtain ⟨nq, hw''⟩ := hw'
        subst hw''
        intro K hK
        have hcall := dfields_any d.fields d2.fields _ _ (w3.drewN nq) (HF.out.below (below_drewN (Below.refl _ _) nq)) (HF3.out.below (below_drewN (Below.refl _ _) nq))
        generalize fieldsW d.fields d2.fields = qq at *
        go_wp2_with fail
        refine hcall.mono ?_
        clear hcall
        rintro e w4 ⟨rfl, hb4⟩
        have hb34 := (below_drewN (Below.refl w3.heap.size w3) nq).trans hb4
        refine hK _ _ ?_
        repeat (go_big_quiet_step (fail))
        refine wpQuiet_nil ?_
        intro _ hw'
        obtain ⟨nq2, hw''⟩ := hw'
        subst hw''
        clear hK
        have hbW := below_drewN hb34 nq2
        generalize w4.drewN nq2 = w2 at *
        have hb12 := hb13.trans (hbW.mono hb13.size)
        have hB4 := hB3.trans (hbW.mono hB3.size)
        clear z1 z2 y0 p0 p1 p2 hb4 hb34 hbW hb13 hbb hB3
        cases qq with
        | true =>
          have HS : Hid (∀ j x, j < k + 1 → a.kinds[j]? = some x → kindW b.kinds x = true) := hit_step HP.out HD.out HQ2.out
          go_wp2_with fail
          go_roundw
          case rel => exact ⟨k + 1, by omega, by go_num, hb12, HS⟩
          case measure => simp [intOf]; omega
        | false =>
          -- wider_noK (List.mem_of_getElem? HD.out) HQ2.out: no
          have HF : Hid (widerR a b = false) := by unfold Hid; rw [HE.out.2]; exact wider_noK (List.mem_of_getElem? HD.out) HQ2.out
          go_wp2_with fail
          go_ret2
          exact ⟨by rw [HF.out, HE.out.1]; rfl, hB4⟩
    · obtain rfl : k = a.kinds.length := by omega
      have HWB2 : Hid (widerB a b = (a.bonds.all (bondW b.bonds) && !(b.bonds.any fun x => decide (bFind a.bonds x.name < 0) && decide (0 < x.mn)))) := by unfold Hid; rw [HWB.out, all_of HP.out, Bool.true_and]
      have HBR0 := Lib.hid hbr
      have HH1 := Lib.hid (H1.out.below hbr)
      have HH2 := Lib.hid (H2.out.below hbr)
      have hB2 := hB1.trans (hbr.mono hB1.size)
      have HG2 := Lib.hid ((hbr.block _ (Array.getElem?_eq_some_iff.1 HG1.out).1).trans HG1.out)
      clear HWB HP hbr H1 H2 HG1 HBR0
      generalize hwr : wr = W2 at *
      clear hwr
      go_wp2_with fail
      go_loopw [61] (fun i wr => ∃ (k : Nat), k ≤ a.bonds.length ∧ i = .int .i64 k ∧ Below W2.heap.size W2 wr ∧ Hid (∀ j x, j < k → a.bonds[j]? = some x → bondW b.bonds x = true)) (fun i _ => a.bonds.length - (intOf i).toNat)
      case atStart => exact ⟨0, Nat.zero_le _, rfl, Below.refl _ _, fun j x hj => absurd hj (Nat.not_lt_zero _)⟩
      case round =>
        obtain ⟨k, hk, rfl, hbr, HP⟩ := hrel
        have x0 := cell_below hbr x0
        have x1 := cell_below hbr x1
        have y0 := cell_below hbr y0
        have y1 := cell_below hbr y1
        by_cases hlt : k < a.bonds.length
        · obtain ⟨d, hd⟩ : ∃ d, a.bonds[k]? = some d := ⟨_, List.getElem?_eq_getElem hlt⟩
          obtain ⟨bb, o, rfl, hok, q0, q1, q2, q3, q4⟩ := bnd_at (HH1.out.below hbr).2 hd
          obtain ⟨z0, z1, z2, z3, z4⟩ := cell_box5 wr (.string d.name) (.string d.src) (.string d.dst) (.int .i64 d.mn) (.int .i64 d.mx) 47
          have ha1 : Below wr.heap.size wr (wr.alloc (.cells #[.string d.name, .string d.src, .string d.dst, .int .i64 d.mn, .int .i64 d.mx] 47)) := (Below.refl _ _).alloc (Nat.le_refl _) _
          have hlt' : (k : Int) < (a.bonds.length : Int) := by omega
          have HD := Lib.hid hd
          have HOK := Lib.hid hok
          have hbb := hbr.trans (ha1.mono hbr.size)
          have hkf := sFind_any b d.name _ _ _ (HH2.out.below hbb)
          have y0' := cell_below ha1 y0
          have y1' := cell_below ha1 y1
          have hkc := bFind_cases b.bonds d.name
          have HKN : Hid (bFind b.bonds d.name < 0 → bondW b.bonds d = false) := bondW_neg
          have HKA : Hid (∀ (i : Nat) x, bFind b.bonds d.name = i → b.bonds[i]? = some x → bondW b.bonds d = bondW1 d x) := fun i x h hx => bondW_at h hx
          clear hd hok y0 y1 x0 x1
          go_upto_region 14 with fail
          generalize wr.alloc (.cells #[.string d.name, .string d.src, .string d.dst, .int .i64 d.mn, .int .i64 d.mx] 47) = Wa at *
          generalize bFind b.bonds d.name = fz at *
          go_wp2_with fail
          refine hkf.mono ?_
          clear hkf
          rintro e w3 ⟨rfl, hb3⟩
          have y1 := cell_below hb3 y1'
          have z0 := cell_below hb3 z0
          have z1 := cell_below hb3 z1
          have z2 := cell_below hb3 z2
          have z3 := cell_below hb3 z3
          have z4 := cell_below hb3 z4
          have hb13 := hbb.trans (hb3.mono hbb.size)
          have hB3 := hB2.trans (hb13.mono hB2.size)
          clear y0' y1' hb3 ha1 q0 q1 q2 q3 q4
          rcases hkc with hn | ⟨i, d2, rfl, hd2⟩
          · have HQ := Lib.hid (HKN.out hn)
            have hn' : decide (fz < 0) = true := decide_eq_true hn
            clear HKA HKN
            go_wp2_with fail
            go_quiet (fail)
            -- wider_noB (List.mem_of_getElem? HD.out) HQ.out: no
            have HF : Hid (widerR a b = false) := by unfold Hid; rw [HE.out.2]; exact wider_noB (List.mem_of_getElem? HD.out) HQ.out
            go_wp2_with fail
            go_ret2
            exact ⟨by rw [HF.out, HE.out.1]; rfl, below_drewN hB3 _⟩
          · have HQ := Lib.hid (HKA.out i d2 rfl hd2)
            have hi := (List.getElem?_eq_some_iff.1 hd2).1
            have hi' : (i : Int) < (b.bonds.length : Int) := by omega
            have hn0 : decide ((i : Int) < 0) = false := decide_eq_false (by omega)
            obtain ⟨b3, o3, rfl, hok3, p0, p1, p2, p3, p4⟩ := bnd_at (HH2.out.below hb13).2 hd2
            have HO3 := Lib.hid hok3
            clear HKA HKN hd2 hok3
            go_wp2_with fail
            refine wp_mid_g 9 _ rfl rfl (by kernel_rfl) ?_
            simp only [List.take_succ_cons, List.take_zero, List.drop_succ_cons, List.drop_zero]
            repeat (go_big_quiet_step (fail))
            refine wpQuiet_nil ?_
            refine ⟨by simp [Region.wanted, yielded, go_sem], ?_⟩
            intro _ hw'
            obtain ⟨nq, hw''⟩ := hw'
            subst hw''
            intro K hK
            have hcall := wider1_any d d2 (w3.drewN nq) HOK.out HO3.out
            generalize bondW1 d d2 = qq at *
            go_wp2_with fail
            refine hcall.mono ?_
            clear hcall
            rintro e w4 ⟨rfl, hb4⟩
            have hb34 := (below_drewN (Below.refl w3.heap.size w3) nq).trans hb4
            refine hK _ _ ?_
            repeat (go_big_quiet_step (fail))
            refine wpQuiet_nil ?_
            intro _ hw'
            obtain ⟨nq2, hw''⟩ := hw'
            subst hw''
            clear hK
            have hbW := below_drewN hb34 nq2
            generalize w4.drewN nq2 = w2 at *
            have hb12 := hb13.trans (hbW.mono hb13.size)
            have hB4 := hB3.trans (hbW.mono hB3.size)
            clear z0 z1 z2 z3 z4 y1 p0 p1 p2 p3 p4 hb4 hb34 hbW hb13 hbb hB3
            cases qq with
            | true =>
              have HS : Hid (∀ j x, j < k + 1 → a.bonds[j]? = some x → bondW b.bonds x = true) := hit_step HP.out HD.out HQ.out
              go_wp2_with fail
              go_roundw
              case rel => exact ⟨k + 1, by omega, by go_num, hb12, HS⟩
              case measure => simp [intOf]; omega
            | false =>
              -- wider_noB (List.mem_of_getElem? HD.out) HQ.out: no
              have HF : Hid (widerR a b = false) := by unfold Hid; rw [HE.out.2]; exact wider_noB (List.mem_of_getElem? HD.out) HQ.out
              go_wp2_with fail
              go_ret2
              exact ⟨by rw [HF.out, HE.out.1]; rfl, hB4⟩
        · obtain rfl : k = a.bonds.length := by omega
          have HQ : Hid (widerB a b = !(b.bonds.any fun x => decide (bFind a.bonds x.name < 0) && decide (0 < x.mn))) := by
            unfold Hid; rw [HWB2.out, all_of HP.out, Bool.true_and]
          have hcall := cont_bnds 13 #[.pointer (some ⟨w.heap.size, 0, none⟩)] (by intro args w; kernel_rfl) (fun x => decide (bFind a.bonds x.name < 0) && decide (0 < x.mn)) b.bonds _ wr (HH2.out.below hbr).2
            (fun d u wx hx hu => wd1_any a d u _ _ _ wx hu ((HH1.out.below hbr).below hx) ((hx.block _ (by have := (Array.getElem?_eq_some_iff.1 HG2.out).1; have := hbr.size; omega)).trans ((hbr.block _ (Array.getElem?_eq_some_iff.1 HG2.out).1).trans HG2.out)))
          have hBr := hB2.trans (hbr.mono hB2.size)
          generalize (b.bonds.any fun x => decide (bFind a.bonds x.name < 0) && decide (0 < x.mn)) = q at *
          go_wp2_with fail
          refine hcall.mono ?_
          clear hcall
          rintro e w5 ⟨rfl, hb5⟩
          go_wp2_with fail
          go_ret2
          exact ⟨by rw [HE.out.1, HE.out.2, HQ.out]; rfl, hBr.trans (hb5.mono hBr.size)⟩
end Go.Proofs.Ytpjnbikkhfnjbaa

/- Plain: a whole struct is stored into a block of its own type. No condition. -/
namespace Go.Proofs.Ytpjnbikkhfnjbaa
open Go Go.RowKit
section
variable {P : Program}

/-- A block is another one, all else stays. -/
structure Put (w w' : World) (g : Nat) (cs : Array Value) (T : TypeId) : Prop where
  q : w'.heap[g]? = some (.cells cs T (0, 0))
  b : ∀ B, B ≤ g → Below B w w'
  o : ∀ k, k ≠ g → w'.heap[k]? = w.heap[k]?
  s : w'.heap.size = w.heap.size
theorem put_row (w : World) (g : Nat) (cs cs' : Array Value) (T : TypeId) (hg : w.heap[g]? = some (.cells cs T (0, 0))) : Put w (w.setRow g cs') g cs' T := by
  have ho : ∀ k, k ≠ g → (w.setRow g cs').heap[k]? = w.heap[k]? := fun k hk => by
    simp only [World.setRow, Array.getElem?_modify]
    rw [if_neg (fun e => hk e.symm)]
  have hs : (w.setRow g cs').heap.size = w.heap.size := by simp [World.setRow]
  exact ⟨setRow_heap w g cs cs' T (0, 0) hg, fun B hB => ⟨rfl, rfl, rfl, by rw [hs]; exact Nat.le_refl _, fun k hk => ho k (by omega)⟩, ho, hs⟩
theorem run_storeVar_row (w : World) (g : Nat) (T ty : TypeId) (cs cs' : Array Value) (hg : w.heap[g]? = some (.cells cs T (0, 0))) (hl : cs'.size = cs.size) (h1 : ∀ v ∈ cs'.toList, v.oneCell' = true) (hi : (P.info? ty).map (·.size) = some cs'.size) :
    (storeVar ty ⟨g, 0, none⟩ (.agg cs')).run P w = .ok () (w.setRow g cs') := by
  have hst := run_storeCells_at P g 0 T cs'.toList 0 cs w hg (by simp; omega) h1
  have e : (cs.toList.take (0 + 0) ++ cs'.toList ++ cs.toList.drop (0 + 0 + cs'.toList.length)).toArray = cs' := by
    rw [List.drop_of_length_le (by simp; omega)]; simp
  rw [e] at hst
  cases hq : P.info? ty with
  | none => simp [hq] at hi
  | some i =>
    have hs : i.size = cs'.size := by simpa [hq] using hi
    simp [storeVar, Sem.run_bind, sizeOf, typeInfo, hq, hs, Value.cells, hst]
theorem wpList_store_row {ops : Array Oper} {rest : List Oper} {o : Oper} {a : Act} {w : World} {Q : Exit → Act → World → Prop} (hgd : o.guard = none) (ty : TypeId) (x v : Operand) (ho : o.op = .store ty x v) (hd : o.dst = none)
    (g : Nat) (hx : a.eval x = .pointer (some ⟨g, 0, none⟩)) (T : TypeId) (cs cs' : Array Value) (hv : a.eval v = .agg cs') (hg : w.heap[g]? = some (.cells cs T (0, 0)))
    (hl : cs'.size = cs.size) (h1 : (cs'.toList.all fun v => v.oneCell') = true) (hi : (P.info? ty).map (·.size) = some cs'.size)
    (h : ∀ w', Put w w' g cs' T → wpList P ops Q rest a w') : wpList P ops Q (o :: rest) a w :=
  wpList_plain hgd fun _ hK => by
    unfold Oper.wp execOp
    simp only [ho, hx, hv, Instr.storeAt, Instr.sureAddr, Sem.run_bind, Sem.run_pure, Result.andThen_ok, run_storeVar_row w g T ty cs cs' hg hl (List.all_eq_true.1 h1) hi]
    have e : a.put o.dst undef = a := by rw [hd]; rfl
    have h2 := h _ (put_row w g cs cs' T hg)
    rw [← e] at h2
    exact hK _ _ h2
end
end Go.Proofs.Ytpjnbikkhfnjbaa
