/- Parts: RfW, As. -/
import Derived.Test.YthefofclbepkoaaDoorMg20
import Derived.Test.YthefofclbepkoaaDoorMg22
import Derived.Deep.DeepCutAuto
import Derived.Test.YthefofclbepkoaaDoorMg01
import Derived.Test.YthefofclbepkoaaDoorRows
import Derived.WalkKit
import Derived.LaidEql
import Derived.Stop.Asserts
import Derived.RowKitTokens
/- Contract of the references: kinref2.Wider. No condition. -/
namespace Go.Proofs.YthefofclbepkoaaDoor
open Go Go.RowKit


theorem fieldsW_must {a b : List Fld} {f : Fld} (hf : f ∈ b) (h1 : f.must = true) (h2 : fFind a f.name < 0) : fieldsW a b = false := by
  unfold fieldsW
  have : (b.any fun f => f.must && decide (fFind a f.name < 0)) = true := List.any_eq_true.2 ⟨f, hf, by rw [h1, decide_eq_true h2]; rfl⟩
  rw [this]; simp
theorem fieldsW_yes {a b : List Fld} (h1 : ∀ j x, j < a.length → a[j]? = some x → okF b x = true) (h2 : ∀ j x, j < b.length → b[j]? = some x → (x.must && decide (fFind a x.name < 0)) = false) : fieldsW a b = true := by
  unfold fieldsW
  rw [all_of h1]
  have : (b.any fun f => f.must && decide (fFind a f.name < 0)) = false := by
    rw [List.any_eq_false]
    intro x hx
    obtain ⟨j, hj⟩ := List.mem_iff_getElem?.1 hx
    have := h2 j x (List.getElem?_eq_some_iff.1 hj).1 hj
    simp [this]
  rw [this]; rfl
theorem wider_noC {a b : Scm} {x : Bnd} (hx : x ∈ b.bonds) (h1 : 0 < x.mn) (h2 : bFind a.bonds x.name < 0) : widerB a b = false := by
  unfold widerB
  have : (b.bonds.any fun x => decide (bFind a.bonds x.name < 0) && decide (0 < x.mn)) = true := List.any_eq_true.2 ⟨x, hx, by rw [decide_eq_true h1, decide_eq_true h2]; rfl⟩
  rw [this]; simp
theorem wider_yes {a b : Scm} (h1 : ∀ j x, j < a.kinds.length → a.kinds[j]? = some x → kindW b.kinds x = true) (h2 : ∀ j x, j < a.bonds.length → a.bonds[j]? = some x → bondW b.bonds x = true)
    (h3 : ∀ j x, j < b.bonds.length → b.bonds[j]? = some x → (decide (bFind a.bonds x.name < 0) && decide (0 < x.mn)) = false) : widerB a b = true := by
  unfold widerB
  rw [all_of h1, all_of h2]
  have : (b.bonds.any fun x => decide (bFind a.bonds x.name < 0) && decide (0 < x.mn)) = false := by
    rw [List.any_eq_false]
    intro x hx
    obtain ⟨j, hj⟩ := List.mem_iff_getElem?.1 hx
    have := h3 j x (List.getElem?_eq_some_iff.1 hj).1 hj
    simp [this]
  rw [this]; rfl
theorem miss_step2 {D : Type} {l : List D} {p : D → Bool} {k : Nat} {d : D} (h : ∀ j x, j < k → l[j]? = some x → p x = false) (hd : l[k]? = some d) (hp : p d = false) : ∀ j x, j < k + 1 → l[j]? = some x → p x = false := fun j x hj hx => by
  by_cases hjk : j = k
  · subst hjk; rw [hd] at hx; injection hx with e; rw [← e]; exact hp
  · exact h j x (by omega) hx
/-- One kind is as wide: the rest of the round. -/
def WKind (a b : Scm) (k : Nat) : Prop := ∀ j x, j < k → a.kinds[j]? = some x → kindW b.kinds x = true
set_option maxRecDepth 100000 in
set_option maxHeartbeats 16000000 in
theorem rwider_any (a b : Scm) (k1 b1 k2 b2 : Value) (w : World) (h1 : ScmR w k1 b1 a) (h2 : ScmR w k2 b2 b) (hmx : (∀ x ∈ a.bonds, -1 ≤ x.mx) ∧ ∀ x ∈ b.bonds, -1 ≤ x.mx) :
    Calls Tryd.prog 9 #[.agg #[k1, b1], .agg #[k2, b2]] w fun e w' => e = .returned (.bool (widerB a b)) ∧ Below w.heap.size w w' := by
  obtain ⟨A1, c1, rfl, hk1, hm1⟩ := h1.1.form
  obtain ⟨A2, c2, rfl, hk2, hm2⟩ := h1.2.form
  obtain ⟨A3, c3, rfl, hk3, hm3⟩ := h2.1.form
  obtain ⟨A4, c4, rfl, hk4, hm4⟩ := h2.2.form
  unfold maxLen at hm1 hm2 hm3 hm4
  obtain ⟨W1, hW1⟩ : ∃ W1, W1 = (w.alloc (.cells #[.slice A1 a.kinds.length c1, .slice A2 a.bonds.length c2] 25)).alloc (.cells #[.slice A3 b.kinds.length c3, .slice A4 b.bonds.length c4] 25) := ⟨_, rfl⟩
  have hb0 : Below w.heap.size w W1 := by rw [hW1]; exact ((Below.refl _ _).alloc (Nat.le_refl _) _).alloc (by simp) _
  have g0 : W1.heap[w.heap.size]? = some (.cells #[.slice A1 a.kinds.length c1, .slice A2 a.bonds.length c2] 25 (0, 0)) := by
    rw [hW1, Below.heap_alloc _ _ _ (by simp)]; exact heap_alloc_new _ _
  have g1 : W1.heap[w.heap.size + 1]? = some (.cells #[.slice A3 b.kinds.length c3, .slice A4 b.bonds.length c4] 25 (0, 0)) := by
    have := heap_alloc_new (w.alloc (.cells #[.slice A1 a.kinds.length c1, .slice A2 a.bonds.length c2] 25)) (.cells #[.slice A3 b.kinds.length c3, .slice A4 b.bonds.length c4] 25); rw [hW1]; simpa using this
  have hW1' := hW1.symm
  have X0 := Lib.hid (block_cell g0 0)
  have X1 := Lib.hid (block_cell g0 1)
  have Y0 := Lib.hid (block_cell g1 0)
  have Y1 := Lib.hid (block_cell g1 1)
  have x0 := X0.out
  have H1 := Lib.hid (h1.below hb0)
  have H2 := Lib.hid (h2.below hb0)
  have HMX := Lib.hid hmx
  clear h1 h2 g0 g1 hW1 hmx
  go_enter Tryd.func9, Tryd.ntmps9
  go_wp2_with fail
  clear hW1'
  go_loopw [5] (fun i wr => ∃ k : Nat, k ≤ a.kinds.length ∧ i = .int .i64 k ∧ Below W1.heap.size W1 wr ∧ Hid (WKind a b k)) (fun i _ => a.kinds.length - (intOf i).toNat)
  case atStart => exact ⟨0, Nat.zero_le _, rfl, Below.refl _ _, fun j x hj => absurd hj (Nat.not_lt_zero _)⟩
  case round =>
    clear x0
    obtain ⟨k, hk, rfl, hbr, HP⟩ := hrel
    have x0 := cell_below hbr X0.out
    have y0 := cell_below hbr Y0.out
    by_cases hlt : k < a.kinds.length
    · obtain ⟨d, hd⟩ : ∃ d, a.kinds[k]? = some d := ⟨_, List.getElem?_eq_getElem hlt⟩
      obtain ⟨bb, o, rfl, u, x, hsm, hso, hsf, q0, q1, q2⟩ := knd_at (H1.out.below hbr).1 hd
      obtain ⟨E1, e1, rfl, _, hn1⟩ := hso.form
      obtain ⟨E2, e2, rfl, _, hn2⟩ := hsf.form
      unfold maxLen at hn1 hn2
      have hlt' : (k : Int) < (a.kinds.length : Int) := by omega
      obtain ⟨z0, z1, z2⟩ := cell_box3 wr (.string d.name) (.slice E1 d.ofs.length e1) (.slice E2 d.fields.length e2) 42
      have ha1 : Below wr.heap.size wr (wr.alloc (.cells #[.string d.name, .slice E1 d.ofs.length e1, .slice E2 d.fields.length e2] 42)) := (Below.refl _ _).alloc (Nat.le_refl _) _
      have hb2 := hbr.trans (ha1.mono hbr.size)
      have HD := Lib.hid hd
      have HO := Lib.hid (hso.below ha1)
      have HF := Lib.hid (hsf.below ha1)
      have hkc := kFind_cases b.kinds d.name
      have hkf := rkind_any b.kinds d.name _ _ (H2.out.below hb2).1
      have HKN : Hid (kFind b.kinds d.name < 0 → widerB a b = false) := fun h => wider_noK (List.mem_of_getElem? hd) (kindW_neg h)
      have HKA : Hid (∀ (i : Nat) y, kFind b.kinds d.name = i → b.kinds[i]? = some y → kindW b.kinds d = (decide (d.ofs = y.ofs) && fieldsW d.fields y.fields)) := fun i y h hy => kindW_at h hy
      have y0' := cell_below ha1 y0
      clear hd hso hsf hsm
      go_upto_region 5 with fail
      generalize wr.alloc (.cells #[.string d.name, .slice E1 d.ofs.length e1, .slice E2 d.fields.length e2] 42) = Wa at *
      clear y0 x0 q0 q1 q2
      have hBa := hb0.trans (hb2.mono hb0.size)
      generalize kFind b.kinds d.name = fz at *
      go_wp2_with fail
      refine hkf.mono ?_
      clear hkf
      rintro e w' ⟨rfl, rfl⟩
      rcases hkc with hn | ⟨i, y, rfl, hy⟩
      · have hn' : decide (fz < 0) = true := decide_eq_true hn
        clear HKA
        go_wp2_with fail
        go_quiet (fail)
        -- HKN.out hn: why; below_drewN hBa _: where it stands
        have HF : Hid (widerB a b = false) := HKN.out hn
        go_wp2_with fail
        go_ret
        exact ⟨by rw [HF.out]; rfl, below_drewN hBa _⟩
      have hi := (List.getElem?_eq_some_iff.1 hy).1
      have hi' : (i : Int) < (b.kinds.length : Int) := by omega
      have hn0 : decide ((i : Int) < 0) = false := decide_eq_false (by omega)
      obtain ⟨b3, o3, rfl, u3, x3, hsm3, hso3, hsf3, p0, p1, p2⟩ := knd_at (H2.out.below hb2).1 hy
      obtain ⟨E3, e3, rfl, _, hn3⟩ := hso3.form
      obtain ⟨E4, e4, rfl, _, hn4⟩ := hsf3.form
      unfold maxLen at hn3 hn4
      have hKW := HKA.out i y rfl hy
      have HO3 := Lib.hid hso3
      have HF3 := Lib.hid hsf3
      have HY := Lib.hid hy
      clear HKN HKA hy hsm3 hso3 hsf3
      go_wp2_with fail
      refine wp_mid_g 9 _ rfl rfl (by kernel_rfl) ?_
      simp only [List.take_succ_cons, List.take_zero, List.drop_succ_cons, List.drop_zero]
      repeat (go_big_quiet_step (fail))
      refine wpQuiet_nil ?_
      refine ⟨by simp [Region.wanted, yielded, go_sem], ?_⟩
      intro _ hw'
      obtain ⟨nq, hw''⟩ := hw'
      subst hw''
      intro K hK
      have hbq := below_drewN (Below.refl Wa.heap.size Wa) nq
      have hcall := rkin2_any d y _ _ _ _ (Wa.drewN nq) (HO.out.below hbq) (HF.out.below hbq) (HO3.out.below hbq) (HF3.out.below hbq)
      generalize decide (d.ofs = y.ofs) = qq at *
      have HKW := Lib.hid hKW
      clear hKW
      go_wp2_with fail
      refine hcall.mono ?_
      clear hcall
      rintro e w4 ⟨rfl, hb4⟩
      have hb34 := hbq.trans hb4
      refine hK _ _ ?_
      repeat (go_big_quiet_step (fail))
      refine wpQuiet_nil ?_
      intro _ hw'
      obtain ⟨nq2, hw''⟩ := hw'
      subst hw''
      clear hK
      have hbW := below_drewN hb34 nq2
      generalize w4.drewN nq2 = w2 at *
      have hb12 := hb2.trans (hbW.mono hb2.size)
      have hB2 := hBa.trans (hbW.mono hBa.size)
      have y0' := cell_below hbW y0'
      have z0 := cell_below hbW z0
      have z1 := cell_below hbW z1
      have z2 := cell_below hbW z2
      have p0 := cell_below hbW p0
      have p1 := cell_below hbW p1
      have p2 := cell_below hbW p2
      have HF := Lib.hid (HF.out.below hbW)
      have HO := Lib.hid (HO.out.below hbW)
      have HF3 := Lib.hid (HF3.out.below hbW)
      have HO3 := Lib.hid (HO3.out.below hbW)
      clear hbq hb4 hb34 hbW hb2 hBa ha1
      cases qq with
      | false =>
        have hno : kindW b.kinds d = false := HKW.out
        clear HKW
        -- wider_noK (List.mem_of_getElem? HD.out) hno: why; hB2: where it stands
        have HF : Hid (widerB a b = false) := wider_noK (List.mem_of_getElem? HD.out) hno
        go_wp2_with fail
        go_ret
        exact ⟨by rw [HF.out]; rfl, hB2⟩
      | true =>
        have hKW : kindW b.kinds d = fieldsW d.fields y.fields := by rw [HKW.out]; rfl
        have HKW := Lib.hid hKW
        have HNOF : Hid (fieldsW d.fields y.fields = false → widerB a b = false) := fun h => wider_noK (List.mem_of_getElem? HD.out) (HKW.out.trans h)
        clear hKW
        obtain ⟨t0, t1, t2⟩ := cell_box3 w2 (.string y.name) (.slice E3 y.ofs.length e3) (.slice E4 y.fields.length e4) 42
        have ha2 : Below w2.heap.size w2 (w2.alloc (.cells #[.string y.name, .slice E3 y.ofs.length e3, .slice E4 y.fields.length e4] 42)) := (Below.refl _ _).alloc (Nat.le_refl _) _
        go_upto_region 9 with fail
        have z0 := cell_below ha2 z0
        have z1 := cell_below ha2 z1
        have z2 := cell_below ha2 z2
        have HF := Lib.hid (HF.out.below ha2)
        have HO := Lib.hid (HO.out.below ha2)
        have HF3 := Lib.hid (HF3.out.below ha2)
        have HO3 := Lib.hid (HO3.out.below ha2)
        have hb13 := hb12.trans (ha2.mono hb12.size)
        have hB3 := hB2.trans (ha2.mono hB2.size)
        generalize w2.alloc (.cells #[.string y.name, .slice E3 y.ofs.length e3, .slice E4 y.fields.length e4] 42) = w3 at *
        have Z0 := Lib.hid z0
        have Z1 := Lib.hid z1
        have Z2 := Lib.hid z2
        have T0 := Lib.hid t0
        have T1 := Lib.hid t1
        have T2 := Lib.hid t2
        clear ha2 y0' p0 p1 p2 z0 z1 t0 t1 t2 hb12 hB2
        go_wp2_with fail
        go_loopw [9] (fun v wr => ∃ j : Nat, j ≤ d.fields.length ∧ v = .int .i64 j ∧ Below w3.heap.size w3 wr ∧ Hid (∀ m x, m < j → d.fields[m]? = some x → okF y.fields x = true)) (fun v _ => d.fields.length - (intOf v).toNat)
        case atStart => exact ⟨0, Nat.zero_le _, rfl, Below.refl _ _, fun j x hj => absurd hj (Nat.not_lt_zero _)⟩
        case round =>
          clear z2
          obtain ⟨j, hj, rfl, hbj, HPJ⟩ := hrel
          have z2 := cell_below hbj Z2.out
          have hBj := hB3.trans (hbj.mono hB3.size)
          by_cases hltj : j < d.fields.length
          · obtain ⟨f, hf⟩ : ∃ f, d.fields[j]? = some f := ⟨_, List.getElem?_eq_getElem hltj⟩
            have t0 := cell_below hbj T0.out
            have t1 := cell_below hbj T1.out
            have t2 := cell_below hbj T2.out
            obtain ⟨b5, o5, rfl, _, f0, f1, f2, f3⟩ := fld_at (HF.out.below hbj) hf
            have hltj' : (j : Int) < (d.fields.length : Int) := by omega
            have HFD := Lib.hid hf
            have hfc := fFind_cases y.fields f.name
            have HFN : Hid (fFind y.fields f.name < 0 → widerB a b = false) := fun h => HNOF.out (fieldsW_no (List.mem_of_getElem? hf) (okF_neg h))
            have HFA : Hid (∀ (i : Nat) g, fFind y.fields f.name = i → y.fields[i]? = some g → okF y.fields f = (decide (g.ty = f.ty) && !(g.must && !f.must) && !(g.key && !f.key))) := fun i g h hg => okF_at h hg
            have HFI : Hid (∀ W, Below wr.heap.size wr W → Calls Tryd.prog 34 #[.agg #[.string y.name, .slice E3 y.ofs.length e3, .slice E4 y.fields.length e4], .string f.name] W fun e w' => e = .returned (.int .i64 (fFind y.fields f.name)) ∧ Below W.heap.size W w') := fun W h => rfield2_any y f.name _ _ W ((HF3.out.below hbj).below h) ((HO3.out.below hbj).below h)
            clear hf
            generalize fFind y.fields f.name = at0 at *
            go_wp2_with fail
            refine wp_mid_k 7 _ rfl rfl (by kernel_rfl) (by kernel_rfl) ?_
            simp only [List.take_succ_cons, List.take_zero, List.drop_succ_cons, List.drop_zero]
            repeat (go_big_quiet_step (fail))
            refine wpQuiet_nil ?_
            intro _ hw'
            obtain ⟨nq, hw''⟩ := hw'
            subst hw''
            intro K hK
            have hbq := below_drewN (Below.refl wr.heap.size wr) nq
            have hcall := HFI.out (wr.drewN nq) hbq
            clear HFI
            go_wp2_with fail
            refine hcall.mono ?_
            clear hcall
            rintro e w5 ⟨rfl, hb5⟩
            have hb35 := hbq.trans hb5
            refine hK _ _ ?_
            repeat (go_big_quiet_step (fail))
            refine wpQuiet_nil ?_
            intro _ hw'
            obtain ⟨nq2, hw''⟩ := hw'
            subst hw''
            clear hK
            have hbV := below_drewN hb35 nq2
            generalize w5.drewN nq2 = w6 at *
            have z2 := cell_below hbV z2
            have t2 := cell_below hbV t2
            have f0 := cell_below hbV f0
            have f1 := cell_below hbV f1
            have f2 := cell_below hbV f2
            have f3 := cell_below hbV f3
            have hb6 := hbj.trans (hbV.mono hbj.size)
            have hB6 := hBj.trans (hbV.mono hBj.size)
            clear hbq hb5 hb35 hbV t0 t1
            rcases hfc with hn | ⟨ai, gg, rfl, hgg⟩
            · have hn' : decide (at0 < 0) = true := decide_eq_true hn
              clear HFA
              -- HFN.out hn: why; hB6: where it stands
              have HF : Hid (widerB a b = false) := HFN.out hn
              go_wp2_with fail
              go_ret
              exact ⟨by rw [HF.out]; rfl, hB6⟩
            have hai := (List.getElem?_eq_some_iff.1 hgg).1
            have hai' : (ai : Int) < (y.fields.length : Int) := by omega
            have hai0 : (0 : Int) ≤ (ai : Int) := by omega
            have hn0' : decide ((ai : Int) < 0) = false := decide_eq_false (by omega)
            obtain ⟨b7, o7, rfl, _, g0, g1, g2, g3⟩ := fld_at (HF3.out.below hb6) hgg
            have HOK := Lib.hid (HFA.out ai gg rfl hgg)
            have HNO : Hid (okF y.fields f = false → widerB a b = false) := fun h => HNOF.out (fieldsW_no (List.mem_of_getElem? HFD.out) h)
            clear HFN HFA hgg
            obtain ⟨_, r1, r2, r3⟩ := cell_box4 w6 (.string f.name) (.int .i64 f.ty) (.bool f.must) (.bool f.key) 80
            have ha6 : Below w6.heap.size w6 (w6.alloc (.cells #[.string f.name, .int .i64 f.ty, .bool f.must, .bool f.key] 80)) := (Below.refl _ _).alloc (Nat.le_refl _) _
            go_upto_region 16 with fail
            have t2 := cell_below ha6 t2
            have g0 := cell_below ha6 g0
            have g1 := cell_below ha6 g1
            have g2 := cell_below ha6 g2
            have g3 := cell_below ha6 g3
            have hb7 := hb6.trans (ha6.mono hb6.size)
            have hB7 := hB6.trans (ha6.mono hB6.size)
            generalize w6.alloc (.cells #[.string f.name, .int .i64 f.ty, .bool f.must, .bool f.key] 80) = w7 at *
            obtain ⟨_, s1, s2, s3⟩ := cell_box4 w7 (.string gg.name) (.int .i64 gg.ty) (.bool gg.must) (.bool gg.key) 80
            have ha7 : Below w7.heap.size w7 (w7.alloc (.cells #[.string gg.name, .int .i64 gg.ty, .bool gg.must, .bool gg.key] 80)) := (Below.refl _ _).alloc (Nat.le_refl _) _
            go_upto_region 17 with fail
            have r1 := cell_below ha7 r1
            have r2 := cell_below ha7 r2
            have r3 := cell_below ha7 r3
            have hb8 := hb7.trans (ha7.mono hb7.size)
            have hB8 := hB7.trans (ha7.mono hB7.size)
            generalize w7.alloc (.cells #[.string gg.name, .int .i64 gg.ty, .bool gg.must, .bool gg.key] 80) = w8 at *
            clear ha6 ha7 hb6 hB6 hb7 hB7 t2 g0 g1 g2 g3 z2 f0 f1 f2 f3
            by_cases hty : gg.ty = f.ty
            case neg =>
              have hno : Hid (widerB a b = false) := HNO.out (by rw [HOK.out, decide_eq_false hty]; rfl)
              have htb : (f.ty != gg.ty) = true := by rw [bne_iff_ne]; exact fun e => hty e.symm
              clear HOK HNO hty
              -- hno.out: why; hB8: where it stands
              have HF : Hid (widerB a b = false) := hno.out
              go_wp2_with fail
              go_ret
              exact ⟨by rw [HF.out]; rfl, hB8⟩
            have htb : (f.ty != gg.ty) = false := by rw [bne_eq_false_iff_eq]; exact hty.symm
            have HOK2 : Hid (okF y.fields f = (!(gg.must && !f.must) && !(gg.key && !f.key))) := by unfold Hid; rw [HOK.out, decide_eq_true hty]; rfl
            clear HOK hty
            generalize gg.must = gm at *
            generalize f.must = fm at *
            generalize gg.key = gk at *
            generalize f.key = fk at *
            cases gm with
            | true =>
              cases fm with
              | false =>
                have hno : Hid (widerB a b = false) := HNO.out (by rw [HOK2.out]; rfl)
                clear HOK2 HNO
                -- hno.out: why; hB8: where it stands
                have HF : Hid (widerB a b = false) := hno.out
                go_wp2_with fail
                go_ret
                exact ⟨by rw [HF.out]; rfl, hB8⟩
              | true =>
                cases gk with
                | true =>
                  cases fk with
                  | false =>
                    have hno : Hid (widerB a b = false) := HNO.out (by rw [HOK2.out]; simp)
                    clear HOK2 HNO
                    -- hno.out: why; hB8: where it stands
                    have HF : Hid (widerB a b = false) := hno.out
                    go_wp2_with fail
                    go_ret
                    exact ⟨by rw [HF.out]; rfl, hB8⟩
                  | true =>
                    have HPN : Hid (∀ m x, m < j + 1 → d.fields[m]? = some x → okF y.fields x = true) := hit_step HPJ.out HFD.out (by rw [HOK2.out]; simp)
                    clear HOK2 HNO
                    go_wp2_with fail
                    go_roundw
                    case rel => exact ⟨j + 1, by omega, by go_num, hb8, HPN⟩
                    case measure => simp [intOf]; omega
                | false =>
                  have HPN : Hid (∀ m x, m < j + 1 → d.fields[m]? = some x → okF y.fields x = true) := hit_step HPJ.out HFD.out (by rw [HOK2.out]; simp)
                  clear HOK2 HNO
                  go_wp2_with fail
                  go_roundw
                  case rel => exact ⟨j + 1, by omega, by go_num, hb8, HPN⟩
                  case measure => simp [intOf]; omega
            | false =>
              cases gk with
              | true =>
                cases fk with
                | false =>
                  have hno : Hid (widerB a b = false) := HNO.out (by rw [HOK2.out]; simp)
                  clear HOK2 HNO
                  -- hno.out: why; hB8: where it stands
                  have HF : Hid (widerB a b = false) := hno.out
                  go_wp2_with fail
                  go_ret
                  exact ⟨by rw [HF.out]; rfl, hB8⟩
                | true =>
                  have HPN : Hid (∀ m x, m < j + 1 → d.fields[m]? = some x → okF y.fields x = true) := hit_step HPJ.out HFD.out (by rw [HOK2.out]; simp)
                  clear HOK2 HNO
                  go_wp2_with fail
                  go_roundw
                  case rel => exact ⟨j + 1, by omega, by go_num, hb8, HPN⟩
                  case measure => simp [intOf]; omega
              | false =>
                have HPN : Hid (∀ m x, m < j + 1 → d.fields[m]? = some x → okF y.fields x = true) := hit_step HPJ.out HFD.out (by rw [HOK2.out]; simp)
                clear HOK2 HNO
                go_wp2_with fail
                go_roundw
                case rel => exact ⟨j + 1, by omega, by go_num, hb8, HPN⟩
                case measure => simp [intOf]; omega
          · obtain rfl : j = d.fields.length := by omega
            have HPJ2 := Lib.hid HPJ.out
            have t2 := cell_below hbj T2.out
            clear hltj hj HPJ
            obtain ⟨wo, rfl⟩ : ∃ wo : World, wo = wr := ⟨_, rfl⟩
            go_wp2_with fail
            go_loopw [13] (fun v wr => ∃ m : Nat, m ≤ y.fields.length ∧ v = .int .i64 m ∧ Below w3.heap.size w3 wr ∧ Hid (∀ j x, j < m → y.fields[j]? = some x → (x.must && decide (fFind d.fields x.name < 0)) = false)) (fun v _ => y.fields.length - (intOf v).toNat)
            case atStart => exact ⟨0, Nat.zero_le _, rfl, hbj, fun j x hj => absurd hj (Nat.not_lt_zero _)⟩
            case round =>
              clear t2 z2 hbj hBj
              obtain ⟨m, hm, rfl, hbm, HPM⟩ := hrel
              have hBm := hB3.trans (hbm.mono hB3.size)
              have t2 := cell_below hbm T2.out
              by_cases hltm : m < y.fields.length
              · obtain ⟨f, hf⟩ : ∃ f, y.fields[m]? = some f := ⟨_, List.getElem?_eq_getElem hltm⟩
                have z0 := cell_below hbm Z0.out
                have z1 := cell_below hbm Z1.out
                have z2 := cell_below hbm Z2.out
                obtain ⟨b5, o5, rfl, _, f0, f1, f2, f3⟩ := fld_at (HF3.out.below hbm) hf
                have hltm' : (m : Int) < (y.fields.length : Int) := by omega
                have HNM : Hid (f.must = true → fFind d.fields f.name < 0 → widerB a b = false) := fun h1 h2 => HNOF.out (fieldsW_must (List.mem_of_getElem? hf) h1 h2)
                have HGM : Hid ((f.must && decide (fFind d.fields f.name < 0)) = false → ∀ j x, j < m + 1 → y.fields[j]? = some x → (x.must && decide (fFind d.fields x.name < 0)) = false) := fun h => miss_step2 HPM.out hf h
                have HFI : Hid (∀ W, Below wr.heap.size wr W → Calls Tryd.prog 34 #[.agg #[.string d.name, .slice E1 d.ofs.length e1, .slice E2 d.fields.length e2], .string f.name] W fun e w' => e = .returned (.int .i64 (fFind d.fields f.name)) ∧ Below W.heap.size W w') := fun W h => rfield2_any d f.name _ _ W ((HF.out.below hbm).below h) ((HO.out.below hbm).below h)
                clear hf
                generalize fFind d.fields f.name = ff at *
                generalize f.must = fm at *
                cases fm with
                | false =>
                  have HPN := Lib.hid (HGM.out rfl)
                  clear HGM HNM HFI
                  go_wp2_with fail
                  go_quiet (fail)
                  go_wp2_with fail
                  go_roundw
                  case rel => exact ⟨m + 1, by omega, by go_num, below_drewN hbm _, HPN⟩
                  case measure => simp [intOf]; omega
                | true =>
                  go_wp2_with fail
                  refine wp_mid_g 14 _ rfl rfl (by kernel_rfl) ?_
                  simp only [List.take_succ_cons, List.take_zero, List.drop_succ_cons, List.drop_zero]
                  repeat (go_big_quiet_step (fail))
                  refine wpQuiet_nil ?_
                  refine ⟨by simp [Region.wanted, yielded, go_sem], ?_⟩
                  intro _ hw'
                  obtain ⟨nq, hw''⟩ := hw'
                  subst hw''
                  intro K hK
                  have hbq := below_drewN (Below.refl wr.heap.size wr) nq
                  have hcall := HFI.out (wr.drewN nq) hbq
                  clear HFI
                  go_wp2_with fail
                  refine hcall.mono ?_
                  clear hcall
                  rintro e w5 ⟨rfl, hb5⟩
                  have hb35 := hbq.trans hb5
                  refine hK _ _ ?_
                  repeat (go_big_quiet_step (fail))
                  refine wpQuiet_nil ?_
                  intro _ hw'
                  obtain ⟨nq2, hw''⟩ := hw'
                  subst hw''
                  clear hK
                  have hbV := below_drewN hb35 nq2
                  generalize w5.drewN nq2 = w6 at *
                  have hb6 := hbm.trans (hbV.mono hbm.size)
                  have hB6 := hBm.trans (hbV.mono hBm.size)
                  clear hbq hb5 hb35 hbV z0 z1 z2 t2 f0 f1 f2 f3
                  by_cases hff : ff < 0
                  · have hno := Lib.hid (HNM.out (by first | rfl | trivial) hff)
                    clear HGM HNM
                    -- hno.out: why; hB6: where it stands
                    have HF : Hid (widerB a b = false) := hno.out
                    go_wp2_with fail
                    go_ret
                    exact ⟨by rw [HF.out]; rfl, hB6⟩
                  · have hff' : 0 ≤ ff := by omega
                    have hfd : decide (ff < 0) = false := decide_eq_false hff
                    have HPN := Lib.hid (HGM.out (by rw [decide_eq_false hff]; rfl))
                    clear HGM HNM hff
                    go_wp2_with fail
                    go_roundw
                    case rel => ((repeat apply Exists.intro); exact ⟨⟨m + 1, by omega, by go_num, hb6, HPN⟩, rfl⟩)
                    case measure => simp [intOf]; omega
              · obtain rfl : m = y.fields.length := by omega
                have HPN : Hid (WKind a b (k + 1)) := hit_step HP.out HD.out (HKW.out.trans (fieldsW_yes HPJ2.out HPM.out))
                have hbn := hb13.trans (hbm.mono hb13.size)
                clear HPM HPJ2 HKW HNOF hltm hm
                go_wp2_with fail
                go_roundw
                case rel => exact ⟨k + 1, by omega, by go_num, hbn, HPN⟩
                case measure => simp [intOf]; omega
    · obtain rfl : k = a.kinds.length := by omega
      have HP1 := Lib.hid HP.out
      have x1 := cell_below hbr X1.out
      clear hlt hk HP y0
      obtain ⟨wo, rfl⟩ : ∃ wo : World, wo = wr := ⟨_, rfl⟩
      go_wp2_with fail
      go_loopw [14] (fun i wr => ∃ k : Nat, k ≤ a.bonds.length ∧ i = .int .i64 k ∧ Below W1.heap.size W1 wr ∧ Hid (∀ j x, j < k → a.bonds[j]? = some x → bondW b.bonds x = true)) (fun i _ => a.bonds.length - (intOf i).toNat)
      case atStart => exact ⟨0, Nat.zero_le _, rfl, hbr, fun j x hj => absurd hj (Nat.not_lt_zero _)⟩
      case round =>
        clear x0 x1 hbr
        obtain ⟨k, hk, rfl, hbr, HP⟩ := hrel
        have x1 := cell_below hbr X1.out
        have hBr := hb0.trans (hbr.mono hb0.size)
        by_cases hlt : k < a.bonds.length
        · obtain ⟨d, hd⟩ : ∃ d, a.bonds[k]? = some d := ⟨_, List.getElem?_eq_getElem hlt⟩
          obtain ⟨bb, o, rfl, _, q0, q1, q2, q3, q4⟩ := bnd_at (H1.out.below hbr).2 hd
          have hlt' : (k : Int) < (a.bonds.length : Int) := by omega
          obtain ⟨z0, z1, z2, z3, z4⟩ := cell_box5 wr (.string d.name) (.string d.src) (.string d.dst) (.int .i64 d.mn) (.int .i64 d.mx) 77
          have ha1 : Below wr.heap.size wr (wr.alloc (.cells #[.string d.name, .string d.src, .string d.dst, .int .i64 d.mn, .int .i64 d.mx] 77)) := (Below.refl _ _).alloc (Nat.le_refl _) _
          have hb2 := hbr.trans (ha1.mono hbr.size)
          have y1 := cell_below hb2 Y1.out
          have HD := Lib.hid hd
          have hkc := bFind_cases2 b.bonds d.name
          have hkf := rbond_any b.bonds d.name _ _ (H2.out.below hb2).2
          have HKN : Hid (bFind b.bonds d.name < 0 → widerB a b = false) := fun h => wider_noB (List.mem_of_getElem? hd) (bondW_neg h)
          have HKA : Hid (∀ (i : Nat) y, bFind b.bonds d.name = i → b.bonds[i]? = some y → bondW b.bonds d = bondW2 d y) := fun i y h hy => by
            rw [bondW_at h hy, bondW2_eq (HMX.out.1 d (List.mem_of_getElem? hd)) (HMX.out.2 y (List.mem_of_getElem? hy))]
          clear hd
          go_upto_region 28 with fail
          generalize wr.alloc (.cells #[.string d.name, .string d.src, .string d.dst, .int .i64 d.mn, .int .i64 d.mx] 77) = Wa at *
          clear x1 q0 q1 q2 q3 q4
          have hBa := hb0.trans (hb2.mono hb0.size)
          generalize bFind b.bonds d.name = fz at *
          go_wp2_with fail
          refine hkf.mono ?_
          clear hkf
          rintro e w' ⟨rfl, rfl⟩
          rcases hkc with hn | ⟨i, y, rfl, hy⟩
          · have hn' : decide (fz < 0) = true := decide_eq_true hn
            clear HKA
            -- HKN.out hn: why; hBa: where it stands
            have HF : Hid (widerB a b = false) := HKN.out hn
            go_wp2_with fail
            go_ret
            exact ⟨by rw [HF.out]; rfl, hBa⟩
          have hi := (List.getElem?_eq_some_iff.1 hy).1
          have hi' : (i : Int) < (b.bonds.length : Int) := by omega
          have hi0 : (0 : Int) ≤ (i : Int) := by omega
          have hn0 : decide ((i : Int) < 0) = false := decide_eq_false (by omega)
          obtain ⟨b3, o3, rfl, _, p0, p1, p2, p3, p4⟩ := bnd_at (H2.out.below hb2).2 hy
          have HKW := Lib.hid (HKA.out i y rfl hy)
          have HNO : Hid (bondW2 d y = false → widerB a b = false) := fun h => wider_noB (List.mem_of_getElem? HD.out) (HKW.out.trans h)
          have HYES : Hid (bondW2 d y = true → ∀ j x, j < k + 1 → a.bonds[j]? = some x → bondW b.bonds x = true) := fun h => hit_step HP.out HD.out (HKW.out.trans h)
          have HW : Hid (bondW2 d y = (decide (d.src = y.src) && decide (d.dst = y.dst) && decide (y.mn ≤ d.mn) && !(decide (0 ≤ y.mx) && (decide (d.mx < 0) || decide (y.mx < d.mx))))) := rfl
          clear HKN HKA hy HKW
          obtain ⟨s0, s1, s2, s3, s4⟩ := cell_box5 Wa (.string y.name) (.string y.src) (.string y.dst) (.int .i64 y.mn) (.int .i64 y.mx) 77
          have ha2 : Below Wa.heap.size Wa (Wa.alloc (.cells #[.string y.name, .string y.src, .string y.dst, .int .i64 y.mn, .int .i64 y.mx] 77)) := (Below.refl _ _).alloc (Nat.le_refl _) _
          go_upto_region 32 with fail
          have z1 := cell_below ha2 z1
          have z2 := cell_below ha2 z2
          have z3 := cell_below ha2 z3
          have z4 := cell_below ha2 z4
          have hb3 := hb2.trans (ha2.mono hb2.size)
          have hB3 := hBa.trans (ha2.mono hBa.size)
          generalize Wa.alloc (.cells #[.string y.name, .string y.src, .string y.dst, .int .i64 y.mn, .int .i64 y.mx] 77) = W3 at *
          clear ha2 ha1 hb2 hBa y1 z0 s0 p0 p1 p2 p3 p4 hn0
          have hsb : (d.src.toList == y.src.toList) = decide (d.src = y.src) := bytes_beq d.src y.src
          have hdb : (d.dst.toList == y.dst.toList) = decide (d.dst = y.dst) := bytes_beq d.dst y.dst
          by_cases e1 : d.src = y.src
          case neg =>
            have hno := Lib.hid (HNO.out (by rw [HW.out, decide_eq_false e1]; rfl))
            have e1b : ¬ d.src.toList = y.src.toList := by rw [bytes_eq]; exact e1
            rw [decide_eq_false e1] at hsb
            clear HNO HYES HW e1 hdb
            -- hno.out: why; hB3: where it stands
            have HF : Hid (widerB a b = false) := hno.out
            go_wp2_with fail
            go_ret
            exact ⟨by rw [HF.out]; rfl, hB3⟩
          rw [decide_eq_true e1] at hsb
          have e1b : d.src.toList = y.src.toList := by rw [bytes_eq]; exact e1
          by_cases e2 : d.dst = y.dst
          case neg =>
            have hno := Lib.hid (HNO.out (by rw [HW.out, decide_eq_false e2]; simp))
            have e2b : ¬ d.dst.toList = y.dst.toList := by rw [bytes_eq]; exact e2
            rw [decide_eq_false e2] at hdb
            clear HNO HYES HW e1 e2
            -- hno.out: why; hB3: where it stands
            have HF : Hid (widerB a b = false) := hno.out
            go_wp2_with fail
            go_ret
            exact ⟨by rw [HF.out]; rfl, hB3⟩
          rw [decide_eq_true e2] at hdb
          have e2b : d.dst.toList = y.dst.toList := by rw [bytes_eq]; exact e2
          have HW2 : Hid (bondW2 d y = (decide (y.mn ≤ d.mn) && !(decide (0 ≤ y.mx) && (decide (d.mx < 0) || decide (y.mx < d.mx))))) := by unfold Hid; rw [HW.out, decide_eq_true e1, decide_eq_true e2]; rfl
          clear HW e1 e2
          by_cases e3 : y.mn ≤ d.mn
          case neg =>
            have hno := Lib.hid (HNO.out (by rw [HW2.out, decide_eq_false e3]; rfl))
            have e3' : d.mn < y.mn := by omega
            clear HNO HYES HW2 e3
            -- hno.out: why; hB3: where it stands
            have HF : Hid (widerB a b = false) := hno.out
            go_wp2_with fail
            go_ret
            exact ⟨by rw [HF.out]; rfl, hB3⟩
          by_cases e4 : 0 ≤ y.mx
          case neg =>
            have hyes := Lib.hid (HYES.out (by rw [HW2.out, decide_eq_true e3, decide_eq_false e4]; rfl))
            have e4' : y.mx < 0 := by omega
            clear HNO HYES HW2 e4
            go_wp2_with fail
            go_roundw
            case rel => exact ⟨k + 1, by omega, by go_num, hb3, hyes⟩
            case measure => simp [intOf]; omega
          by_cases e5 : d.mx < 0
          · have hno := Lib.hid (HNO.out (by rw [HW2.out, decide_eq_true e3, decide_eq_true e4, decide_eq_true e5]; rfl))
            clear HNO HYES HW2
            -- hno.out: why; hB3: where it stands
            have HF : Hid (widerB a b = false) := hno.out
            go_wp2_with fail
            go_ret
            exact ⟨by rw [HF.out]; rfl, hB3⟩
          have e5' : 0 ≤ d.mx := by omega
          by_cases e6 : y.mx < d.mx
          · have hno := Lib.hid (HNO.out (by rw [HW2.out, decide_eq_true e3, decide_eq_true e4, decide_eq_true e6]; simp))
            clear HNO HYES HW2 e5
            -- hno.out: why; hB3: where it stands
            have HF : Hid (widerB a b = false) := hno.out
            go_wp2_with fail
            go_ret
            exact ⟨by rw [HF.out]; rfl, hB3⟩
          have e6' : d.mx ≤ y.mx := by omega
          have hyes := Lib.hid (HYES.out (by rw [HW2.out, decide_eq_true e3, decide_eq_true e4, decide_eq_false e5, decide_eq_false e6]; rfl))
          clear HNO HYES HW2 e5 e6
          go_wp2_with fail
          go_roundw
          case rel => exact ⟨k + 1, by omega, by go_num, hb3, hyes⟩
          case measure => simp [intOf]; omega
        · obtain rfl : k = a.bonds.length := by omega
          have HP2 := Lib.hid HP.out
          have y1 := cell_below hbr Y1.out
          clear hlt hk HP
          obtain ⟨wo, rfl⟩ : ∃ wo : World, wo = wr := ⟨_, rfl⟩
          go_wp2_with fail
          go_loopw [18] (fun i wr => ∃ k : Nat, k ≤ b.bonds.length ∧ i = .int .i64 k ∧ Below W1.heap.size W1 wr ∧ Hid (∀ j x, j < k → b.bonds[j]? = some x → (decide (bFind a.bonds x.name < 0) && decide (0 < x.mn)) = false)) (fun i _ => b.bonds.length - (intOf i).toNat)
          case atStart => exact ⟨0, Nat.zero_le _, rfl, hbr, fun j x hj => absurd hj (Nat.not_lt_zero _)⟩
          case round =>
            clear x1 y1 hbr hBr
            obtain ⟨k, hk, rfl, hbr, HP⟩ := hrel
            have x1 := cell_below hbr X1.out
            have y1 := cell_below hbr Y1.out
            have hBr := hb0.trans (hbr.mono hb0.size)
            by_cases hlt : k < b.bonds.length
            · obtain ⟨d, hd⟩ : ∃ d, b.bonds[k]? = some d := ⟨_, List.getElem?_eq_getElem hlt⟩
              obtain ⟨bb, o, rfl, _, q0, q1, q2, q3, q4⟩ := bnd_at (H2.out.below hbr).2 hd
              have hlt' : (k : Int) < (b.bonds.length : Int) := by omega
              have HKF : Hid (∀ W, Below wr.heap.size wr W → Calls Tryd.prog 32 #[.slice A2 a.bonds.length c2, .string d.name] W fun e w' => e = .returned (.int .i64 (bFind a.bonds d.name)) ∧ W = w') := fun W h => rbond_any a.bonds d.name _ W (H1.out.below (hbr.trans (h.mono hbr.size))).2
              have HNO : Hid (0 < d.mn → bFind a.bonds d.name < 0 → widerB a b = false) := fun h1 h2 => wider_noC (List.mem_of_getElem? hd) h1 h2
              have HYES : Hid ((decide (bFind a.bonds d.name < 0) && decide (0 < d.mn)) = false → ∀ j x, j < k + 1 → b.bonds[j]? = some x → (decide (bFind a.bonds x.name < 0) && decide (0 < x.mn)) = false) := fun h => miss_step2 HP.out hd h
              clear hd HP
              generalize bFind a.bonds d.name = fz at *
              by_cases e1 : 0 < d.mn
              · have e1b : decide ((0 : Int) < d.mn) = true := decide_eq_true e1
                go_wp2_with fail
                refine wp_mid_g 16 _ rfl rfl (by kernel_rfl) ?_
                simp only [List.take_succ_cons, List.take_zero, List.drop_succ_cons, List.drop_zero]
                repeat (go_big_quiet_step (fail))
                refine wpQuiet_nil ?_
                refine ⟨by simp [Region.wanted, yielded, go_sem], ?_⟩
                intro _ hw'
                obtain ⟨nq, hw''⟩ := hw'
                subst hw''
                intro K hK
                have hkf := HKF.out (wr.drewN nq) (below_drewN (Below.refl _ _) nq)
                clear HKF
                go_wp2_with fail
                refine hkf.mono ?_
                clear hkf
                rintro e w' ⟨rfl, rfl⟩
                refine hK _ _ ?_
                repeat (go_big_quiet_step (fail))
                refine wpQuiet_nil ?_
                intro _ hw'
                obtain ⟨nq2, hw''⟩ := hw'
                subst hw''
                clear hK
                have hbq := below_drewN (below_drewN (Below.refl wr.heap.size wr) nq) nq2
                generalize (wr.drewN nq).drewN nq2 = w3 at *
                have hb3 := hbr.trans (hbq.mono hbr.size)
                have hB3 := hBr.trans (hbq.mono hBr.size)
                clear hbq x1 y1 q0 q1 q2 q3 q4
                by_cases e2 : fz < 0
                · have hno := Lib.hid (HNO.out e1 e2)
                  clear HNO HYES
                  -- hno.out: why; hB3: where it stands
                  have HF : Hid (widerB a b = false) := hno.out
                  go_wp2_with fail
                  go_ret
                  exact ⟨by rw [HF.out]; rfl, hB3⟩
                · have e2' : 0 ≤ fz := by omega
                  have hyes := Lib.hid (HYES.out (by rw [decide_eq_false e2]; rfl))
                  clear HNO HYES e2
                  go_wp2_with fail
                  go_roundw
                  case rel => exact ⟨k + 1, by omega, by go_num, hb3, hyes⟩
                  case measure => simp [intOf]; omega
              · have e1b : decide ((0 : Int) < d.mn) = false := decide_eq_false e1
                have hyes := Lib.hid (HYES.out (by rw [e1b, Bool.and_false]))
                have e1' : d.mn ≤ 0 := by omega
                clear HNO HYES HKF e1
                go_wp2_with fail
                go_quiet (fail)
                have hb3 := below_drewN hbr nq
                generalize wr.drewN nq = w3 at *
                go_wp2_with fail
                go_roundw
                case rel => exact ⟨k + 1, by omega, by go_num, hb3, hyes⟩
                case measure => simp [intOf]; omega
            · obtain rfl : k = b.bonds.length := by omega
              have HF : Hid (widerB a b = true) := wider_yes HP1.out HP2.out HP.out
              clear HP
              go_wp2_with fail
              go_ret
              exact ⟨by rw [HF.out]; rfl, hBr⟩
end Go.Proofs.YthefofclbepkoaaDoor

/- errors.As at a target of the program's own error type (a number): its contracts, turned from the guide's worked example. Conditions: the library's variable holds the handle of the type error. -/
namespace Go.Proofs.YthefofclbepkoaaDoor
open Go.RowKit Go.Extern.Stop Go.Stop Go.Extern

/-- errors.As(nil, target). -/
theorem as_nil (t : Value) (w : World) :
    Calls Tryd.prog 74 #[.nilIface, t] w fun e w' => e = .returned (.bool false) ∧ w' = w := by
  go_enter Tryd.func74, Tryd.ntmps74
  go_wp2
  go_ret
  exact ⟨rfl, rfl⟩

/-! ### CLOSED FACTS ON THE MODEL's ENTRIES FOR internal/reflectlite, at this program's types: 25: *p.E · 27: **p.E · 23: error · 45: reflectlite's rtype · 1: how many package-level variables the dump has -/
theorem as_valueOfP (t : Addr) (w : World) : (ReflectliteValue.unpack (.iface 129 (.pointer (some t)))).run Tryd.prog w
    = .ok (.agg #[.pointer (some ⟨8, 129, none⟩), .pointer (some ⟨w.heap.size, 0, none⟩), .int .u64 150]) (w.alloc (.cells #[.pointer (some t)] 129)) := by kernel_rfl
theorem as_typeP (a : Addr) (w : World) : (ReflectliteValue.methodAny (ReflectliteValue.valueError "reflectlite.Value.Type" 0) (fun t _ _ _ => ReflectliteType.toType t) #[.agg #[.pointer (some ⟨8, 129, none⟩), .pointer (some a), .int .u64 150]]).run Tryd.prog w
    = .ok (.iface 177 (.agg #[.pointer (some ⟨8, 129, none⟩)])) w := by kernel_rfl
theorem as_methodKind (h : Value) (w : World) : (Go.method 379 177 (.agg #[h]) "Kind").run Tryd.prog w = .ok (203, h) w := by kernel_rfl
theorem as_kindP (w : World) : ((ReflectliteType.abiMethod fun t => (fun a : Nat => Value.int IntKind.u8 (a : Int)) <$> Rtype.kind t) #[.pointer (some ⟨8, 129, none⟩)]).run Tryd.prog w = .ok (.int .u8 22) w := by kernel_rfl
theorem as_kindE (w : World) : ((ReflectliteType.abiMethod fun t => (fun a : Nat => Value.int IntKind.u8 (a : Int)) <$> Rtype.kind t) #[.pointer (some ⟨8, 83, none⟩)]).run Tryd.prog w = .ok (.int .u8 2) w := by kernel_rfl

/-! ### THE ENTRIES THAT READ OR WRITE MEMORY: laws with a premise on the cell (after Derived/Lib/ReflectliteSlice.lean's manner: each unfolding a lemma of its own, by rfl) -/
theorem rlm (z : Sem Value) (f : TypeId → Addr → Nat → Nat → Sem Value) (v : Value) :
    ReflectliteValue.method z f #[v] = (do match ← ReflectliteValue.parts v with | none => z | some (t, a, fl) => f t a fl (fl % 32)) := rfl
theorem as_partsP (a : Addr) (w : World) : (ReflectliteValue.parts (.agg #[.pointer (some ⟨8, 129, none⟩), .pointer (some a), .int .u64 150])).run Tryd.prog w = .ok (some (129, a, 150)) w := by kernel_rfl
/-- (Value).IsNil at the Value of a **p.E that is not nil. -/
theorem as_isNilP (a p : Addr) (W : World) (ha : W.cell? a = some (.pointer (some p))) :
    (ReflectliteValue.method (ReflectliteValue.valueError "reflectlite.Value.IsNil" 0) ReflectliteValue.isNil #[.agg #[.pointer (some ⟨8, 129, none⟩), .pointer (some a), .int .u64 150]]).run Tryd.prog W = .ok (.bool false) W := by
  rw [rlm]
  simp only [Sem.run_bind, as_partsP, Result.andThen]
  simp [ReflectliteValue.isNil, loadVar, isAgg, underlying, Tryd.underlying129, ha, Result.andThen]

theorem as_methodElem (h : Value) (w : World) : (Go.method 379 177 (.agg #[h]) "Elem").run Tryd.prog w = .ok (214, .agg #[h]) w := by kernel_rfl
theorem as_methodImplements (h : Value) (w : World) : (Go.method 379 177 (.agg #[h]) "Implements").run Tryd.prog w = .ok (215, .agg #[h]) w := by kernel_rfl
theorem as_methodAssignableTo (h : Value) (w : World) : (Go.method 379 177 (.agg #[h]) "AssignableTo").run Tryd.prog w = .ok (212, .agg #[h]) w := by kernel_rfl
theorem as_elemP (w : World) : (ReflectliteType.method ReflectliteType.elem #[.agg #[.pointer (some ⟨8, 129, none⟩)]]).run Tryd.prog w = .ok (.iface 177 (.agg #[.pointer (some ⟨8, 83, none⟩)])) w := by kernel_rfl
theorem as_implementsE (w : World) : (ReflectliteType.relation "Implements" ReflectliteType.implements_ #[.agg #[.pointer (some ⟨8, 83, none⟩)], .iface 177 (.agg #[.pointer (some ⟨8, 31, none⟩)])]).run Tryd.prog w = .ok (.bool true) w := by kernel_rfl
theorem as_typeOfE (v : Value) (w : World) : (ReflectliteType.typeOf #[.iface 83 v]).run Tryd.prog w = .ok (.iface 177 (.agg #[.pointer (some ⟨8, 83, none⟩)])) w := by kernel_rfl
theorem as_assignableE (w : World) : (ReflectliteType.relation "AssignableTo" ReflectliteType.assignableTo #[.agg #[.pointer (some ⟨8, 83, none⟩)], .iface 177 (.agg #[.pointer (some ⟨8, 83, none⟩)])]).run Tryd.prog w = .ok (.bool true) w := by kernel_rfl
theorem as_valueOfE (e : Int) (w : World) : (ReflectliteValue.unpack (.iface 83 (.int .i64 e))).run Tryd.prog w
    = .ok (.agg #[.pointer (some ⟨8, 83, none⟩), .pointer (some ⟨w.heap.size, 0, none⟩), .int .u64 130]) (w.alloc (.cells #[.int .i64 e] 83)) := by kernel_rfl

theorem as_elemOfP (w : World) : (Rtype.elem? 129).run Tryd.prog w = .ok (some 83) w := by kernel_rfl
theorem as_mkE (p : Addr) (w : World) : (ReflectliteValue.mk 83 p ReflectliteValue.flagAddr).run Tryd.prog w = .ok (.agg #[.pointer (some ⟨8, 83, none⟩), .pointer (some p), .int .u64 386]) w := by kernel_rfl
/-- (Value).Elem at the Value of a **p.E that is not nil: the Value of the *p.E variable that it points to, addressable. -/
theorem as_elemVP (a p : Addr) (W : World) (ha : W.cell? a = some (.pointer (some p))) :
    (ReflectliteValue.method (ReflectliteValue.valueError "reflectlite.Value.Elem" 0) ReflectliteValue.elem #[.agg #[.pointer (some ⟨8, 129, none⟩), .pointer (some a), .int .u64 150]]).run Tryd.prog W
      = .ok (.agg #[.pointer (some ⟨8, 83, none⟩), .pointer (some p), .int .u64 386]) W := by
  rw [rlm]
  simp only [Sem.run_bind, as_partsP, Result.andThen]
  simp [ReflectliteValue.elem, loadVar, isAgg, underlying, Tryd.underlying129, ha, Result.andThen, as_elemOfP, as_mkE]
theorem rls (v x : Value) : ReflectliteValue.set #[v, x] = (do
    let (some (dst, a, fl), some (src, b, _)) := (← ReflectliteValue.parts v, ← ReflectliteValue.parts x)
      | unsupported (.noEntry "extern/(internal/reflectlite.Value).Set.zeroValue")
    if fl / ReflectliteValue.flagAddr % 2 == 0 then unsupported (.noEntry "extern/(internal/reflectlite.Value).Set.unaddressable")
    let val ← loadVar src b
    if ← Rtype.directlyAssignable dst src then storeVar dst a val
    else if ← Rtype.implements dst src then
      if (← Rtype.kind src) == 20 then
        match val with
        | .nilIface => unsupported (.noEntry "extern/reflectlite: a nil value of one interface type handed on as a value of another")
        | _ => storeVar dst a val
      else storeVar dst a (.iface src val)
    else panicString ("reflectlite.Set: value of type " ++ (← Rtype.spelt src) ++ " is not assignable to type " ++ (← Rtype.spelt dst))
    pure (.tuple #[])) := rfl
theorem as_partsEa (a : Addr) (w : World) : (ReflectliteValue.parts (.agg #[.pointer (some ⟨8, 83, none⟩), .pointer (some a), .int .u64 386])).run Tryd.prog w = .ok (some (83, a, 386)) w := by kernel_rfl
theorem as_partsE (a : Addr) (w : World) : (ReflectliteValue.parts (.agg #[.pointer (some ⟨8, 83, none⟩), .pointer (some a), .int .u64 130])).run Tryd.prog w = .ok (some (83, a, 130)) w := by kernel_rfl
theorem as_directE (w : World) : (Rtype.directlyAssignable 83 83).run Tryd.prog w = .ok true w := by kernel_rfl
theorem as_sizeE (w : World) : (sizeOf 83).run Tryd.prog w = .ok 1 w := by kernel_rfl
/-- (Value).Set: the *p.E variable at 'ta' gets what the Value's own variable 'b' holds. -/
theorem as_setE (ta b : Addr) (e : Int) (old : Value) (W : World) (hb : W.cell? b = some (.int .i64 e)) (ht : W.cell? ta = some old) (hf : W.frozen? ta = false) :
    (ReflectliteValue.set #[.agg #[.pointer (some ⟨8, 83, none⟩), .pointer (some ta), .int .u64 386], .agg #[.pointer (some ⟨8, 83, none⟩), .pointer (some b), .int .u64 130]]).run Tryd.prog W
      = .ok (.tuple #[]) (W.setCell ta (.int .i64 e)) := by
  rw [rls]
  simp only [Sem.run_bind, as_partsEa, as_partsE, Result.andThen]
  simp [ReflectliteValue.flagAddr, loadVar, isAgg, underlying, Tryd.underlying83, hb, Result.andThen, as_directE, storeVar, Value.cells, storeCells, Addr.add]
  rw [run_store Tryd.prog W ta _ _ (by rfl)]
  simp [ht, hf]

set_option maxRecDepth 100000 in
set_option maxHeartbeats 4000000 in
theorem as_hit (e : Int) (t : Addr) (old : Value) (w : World) (hg : w.cell? ⟨1, 0, none⟩ = some (.iface 177 (.agg #[.pointer (some ⟨8, 31, none⟩)]))) (ht0 : w.cell? t = some old) (hf0 : w.frozen? t = false) :
    Calls Tryd.prog 74 #[.iface 83 (.int .i64 e), .iface 129 (.pointer (some t))] w fun ev w' => ev = .returned (.bool true) ∧ w' = ((((w.alloc (.cells #[.pointer (some t)] 129)).alloc (.cells #[.pointer (some ⟨8, 129, none⟩), .pointer (some ⟨w.heap.size, 0, none⟩), .int .u64 150] 151)).alloc (.cells #[.pointer (some ⟨8, 129, none⟩), .pointer (some ⟨w.heap.size, 0, none⟩), .int .u64 150] 151)).alloc (.cells #[.int .i64 e] 83)).setCell t (.int .i64 e) := by
  have h6 := @run_callFunc_extern Tryd.prog 99 _ (fun args => ReflectliteValue.unpack (args.getD 0 (.tuple #[]))) Tryd.func99 (by kernel_rfl) (by kernel_rfl) (by kernel_rfl) (by kernel_rfl)
  have h7 := @run_callFunc_extern Tryd.prog 100 _ (ReflectliteValue.methodAny (ReflectliteValue.valueError "reflectlite.Value.Type" 0) (fun t _ _ _ => ReflectliteType.toType t)) Tryd.func100 (by kernel_rfl) (by kernel_rfl) (by kernel_rfl) (by kernel_rfl)
  have h8 := @run_callFunc_extern Tryd.prog 101 _ (ReflectliteValue.method (ReflectliteValue.valueError "reflectlite.Value.IsNil" 0) ReflectliteValue.isNil) Tryd.func101 (by kernel_rfl) (by kernel_rfl) (by kernel_rfl) (by kernel_rfl)
  have h27 := @run_callFunc_extern Tryd.prog 203 _ (ReflectliteType.abiMethod fun t => do pure (.int .u8 (← Rtype.kind t))) Tryd.func203 (by kernel_rfl) (by kernel_rfl) (by kernel_rfl) (by kernel_rfl)
  have h37 := @run_callFunc_extern Tryd.prog 214 _ (ReflectliteType.method ReflectliteType.elem) Tryd.func214 (by kernel_rfl) (by kernel_rfl) (by kernel_rfl) (by kernel_rfl)
  have h38 := @run_callFunc_extern Tryd.prog 215 _ (ReflectliteType.relation "Implements" ReflectliteType.implements_) Tryd.func215 (by kernel_rfl) (by kernel_rfl) (by kernel_rfl) (by kernel_rfl)
  have h10 := @run_callFunc_extern Tryd.prog 120 _ ReflectliteType.typeOf Tryd.func120 (by kernel_rfl) (by kernel_rfl) (by kernel_rfl) (by kernel_rfl)
  have h35 := @run_callFunc_extern Tryd.prog 212 _ (ReflectliteType.relation "AssignableTo" ReflectliteType.assignableTo) Tryd.func212 (by kernel_rfl) (by kernel_rfl) (by kernel_rfl) (by kernel_rfl)
  have h11 := @run_callFunc_extern Tryd.prog 121 _ (ReflectliteValue.method (ReflectliteValue.valueError "reflectlite.Value.Elem" 0) ReflectliteValue.elem) Tryd.func121 (by kernel_rfl) (by kernel_rfl) (by kernel_rfl) (by kernel_rfl)
  have h12 := @run_callFunc_extern Tryd.prog 122 _ ReflectliteValue.set Tryd.func122 (by kernel_rfl) (by kernel_rfl) (by kernel_rfl) (by kernel_rfl)
  have tO := as_typeOfE
  have mA := as_methodAssignableTo
  have a25 := as_assignableE
  have v25 := as_valueOfE
  have f6 := as_valueOfP
  have f7 := as_typeP
  have mK := as_methodKind
  have mE := as_methodElem
  have mI := as_methodImplements
  have k27 := as_kindP
  have k25 := as_kindE
  have e27 := as_elemP
  have i25 := as_implementsE
  have n8 := as_isNilP ⟨w.heap.size, 0, none⟩ t ((w.alloc (.cells #[.pointer (some t)] 129)).alloc (.cells #[.pointer (some ⟨8, 129, none⟩), .pointer (some ⟨w.heap.size, 0, none⟩), .int .u64 150] 151)) (by simp)
  have hlt : 1 < w.heap.size := World.block_lt_of_cell? _ _ hg
  have hg2 : ((w.alloc (.cells #[.pointer (some t)] 129)).alloc (.cells #[.pointer (some ⟨8, 129, none⟩), .pointer (some ⟨w.heap.size, 0, none⟩), .int .u64 150] 151)).cell? ⟨1, 0, none⟩ = some (.iface 177 (.agg #[.pointer (some ⟨8, 31, none⟩)])) := by
    rw [World.cell?_alloc_lt _ _ ⟨1, 0, none⟩ (by simp only [World.size_alloc]; omega), World.cell?_alloc_lt _ _ ⟨1, 0, none⟩ hlt]; exact hg
  have htl : t.block < w.heap.size := by
    rcases Nat.lt_or_ge t.block w.heap.size with h | h
    · exact h
    · simp [World.cell?, Array.getElem?_eq_none h] at ht0
  have el := as_elemVP ⟨w.heap.size, 0, none⟩ t (((w.alloc (.cells #[.pointer (some t)] 129)).alloc (.cells #[.pointer (some ⟨8, 129, none⟩), .pointer (some ⟨w.heap.size, 0, none⟩), .int .u64 150] 151)).alloc (.cells #[.pointer (some ⟨8, 129, none⟩), .pointer (some ⟨w.heap.size, 0, none⟩), .int .u64 150] 151)) (by rw [World.cell?_alloc_lt _ _ ⟨w.heap.size, 0, none⟩ (by simp; omega)]; simp)
  have st := as_setE t ⟨w.heap.size + 1 + 1 + 1, 0, none⟩ e old ((((w.alloc (.cells #[.pointer (some t)] 129)).alloc (.cells #[.pointer (some ⟨8, 129, none⟩), .pointer (some ⟨w.heap.size, 0, none⟩), .int .u64 150] 151)).alloc (.cells #[.pointer (some ⟨8, 129, none⟩), .pointer (some ⟨w.heap.size, 0, none⟩), .int .u64 150] 151)).alloc (.cells #[.int .i64 e] 83))
    (by rw [World.cell?_alloc_at _ _ _ _ (by simp)]; rfl)
    (by rw [World.cell?_alloc_lt _ _ t (by simp; omega), World.cell?_alloc_lt _ _ t (by simp; omega), World.cell?_alloc_lt _ _ t (by simp; omega), World.cell?_alloc_lt _ _ t htl]; exact ht0)
    (by rw [World.frozen?_alloc_old _ _ t (by simp; omega), World.frozen?_alloc_old _ _ t (by simp; omega), World.frozen?_alloc_old _ _ t (by simp; omega), World.frozen?_alloc_old _ _ t (Nat.ne_of_lt htl)]; exact hf0)
  go_enter Tryd.func74, Tryd.ntmps74
  go_wp2
  refine wp_loop_rounds 1 ?_
  rw [rounds_succ]
  go_wp2
  go_ret
  exact ⟨rfl, rfl⟩
end Go.Proofs.YthefofclbepkoaaDoor
