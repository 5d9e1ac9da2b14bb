/- Parts: DifC0, DifC. -/
import Derived.Test.YthefofclbepkoaaDoorMg20
import Derived.Test.YthefofclbepkoaaDoorMg07
import Derived.Laws.EntriesVeiled
import Derived.Deep.DeepCutAuto
/- Contracts: the parts of diff.fields. No condition. -/
namespace Go.Proofs.YthefofclbepkoaaDoor
open Go Go.RowKit



set_option maxHeartbeats 400000 in
theorem idx_flds (g : Nat) (caps : Array Value) (eg : ∀ args w, (callFunc g args).run Tryd.prog w = .ok (.enter g args) w) (p : Fld → Bool) (l : List (Fld)) (v : Value) (w : World) (hv : Sl fldL w v l)
    (hp : PredB Tryd.prog g caps fldV p w) :
    Calls Tryd.prog 76 #[v, .func (.func g) #[] caps] w fun e w' => e = .returned (.int .i64 (idxI p l)) ∧ Below w.heap.size w w' := by
  obtain ⟨A, c, rfl, hlc, hcm⟩ := hv.form
  unfold maxLen at hcm
  go_enter Tryd.func76, Tryd.ntmps76
  go_wp2_with fail
  go_loopw [8] (fun i wr => ∃ k : Nat, k ≤ l.length ∧ i = .int .i64 k ∧ Below w.heap.size w wr ∧ Hid (∀ j x, j < k → l[j]? = some x → p x = false)) (fun i _ => l.length - (intOf i).toNat)
  case atStart => exact ⟨0, Nat.zero_le _, rfl, Below.refl _ _, fun j x hj => absurd hj (Nat.not_lt_zero _)⟩
  case round =>
    obtain ⟨k, hk, rfl, hb, HA⟩ := hrel
    by_cases hlt : k < l.length
    · obtain ⟨d, hd⟩ : ∃ d, l[k]? = some d := ⟨_, List.getElem?_eq_getElem hlt⟩
      obtain ⟨b, o, rfl, hok, c0, c1, c2, c3⟩ := fld_at (hv.below hb) hd
      have hcall := hp d (.agg #[.string d.name, .int .i64 d.ty, .bool d.must, .bool d.key]) wr hb ⟨rfl, hok⟩
      clear hok
      have HD : Hid (l[k]? = some d) := hd
      clear hd hp hv
      cases hq : p d with
      | true =>
        rw [hq] at hcall
        have HQ : Hid (p d = true) := hq
        clear hq
        go_wp2_with (go_at_fn g; refine hcall.mono ?_; rintro e w' ⟨rfl, hb2⟩)
        go_ret
        exact ⟨ret_int (idxI_hit HA.out HD.out HQ.out).symm, hb.trans (hb2.mono hb.size)⟩
      | false =>
        rw [hq] at hcall
        have HQ : Hid (p d = false) := hq
        clear hq
        go_wp2_with (go_at_fn g; refine hcall.mono ?_; rintro e w' ⟨rfl, hb2⟩)
        go_roundw
        case rel => exact ⟨k + 1, by omega, by go_num, hb.trans (hb2.mono hb.size), miss_step HA.out HD.out HQ.out⟩
        case measure => simp [intOf]; omega
    · have hkl : k = l.length := by omega
      subst hkl
      clear hp hv
      go_wp2_with fail
      go_ret
      exact ⟨ret_int (idxI_miss HA.out).symm, hb⟩
theorem cont_flds (g : Nat) (caps : Array Value) (eg : ∀ args w, (callFunc g args).run Tryd.prog w = .ok (.enter g args) w) (p : Fld → Bool) (l : List (Fld)) (v : Value) (w : World) (hv : Sl fldL w v l)
    (hp : PredB Tryd.prog g caps fldV p w) :
    Calls Tryd.prog 78 #[v, .func (.func g) #[] caps] w fun e w' => e = .returned (.bool (l.any p)) ∧ Below w.heap.size w w' := by
  have h1 := idx_flds g caps eg p l v w hv hp
  have h2 := idxI_any p l
  have H2 := Lib.hid h2
  clear h2 hv hp eg
  go_enter Tryd.func78, Tryd.ntmps78
  go_wp2_with (go_at_call 76; refine h1.mono ?_; rintro e w' ⟨rfl, hb⟩)
  go_ret
  exact ⟨ret_bool H2.out, hb⟩
theorem ff1_any (d : Fld) (name : ByteArray) (u : Value) (bk : Nat) (w : World) (hu : fldV w d u) (hc : w.cell? ⟨bk, 0, none⟩ = some (.string name)) :
    Calls Tryd.prog 77 #[u, .pointer (some ⟨bk, 0, none⟩)] w fun e w' => e = .returned (.bool (decide (d.name = name))) ∧ Below w.heap.size w w' := by
  obtain ⟨rfl, _⟩ := hu
  have hlt := World.block_lt_of_cell? _ _ hc
  have hqb := bytes_beq d.name name
  generalize decide (d.name = name) = q at *
  go_enter Tryd.func77, Tryd.ntmps77
  go_wp2_with fail
  go_ret
  exact ⟨rfl, (Below.refl _ _).alloc (Nat.le_refl _) _⟩
theorem fFind_any (l : List Fld) (name : ByteArray) (v : Value) (w : World) (hv : Sl fldL w v l) :
    Calls Tryd.prog 75 #[v, .string name] w fun e w' => e = .returned (.int .i64 (fFind l name)) ∧ Below w.heap.size w w' := by
  have hb0 : Below w.heap.size w (w.alloc (.cells #[.string name] 9)) := (Below.refl _ _).alloc (Nat.le_refl _) _
  have h1 := idx_flds 77 #[.pointer (some ⟨w.heap.size, 0, none⟩)] (by intro args w; kernel_rfl) (fun k => decide (k.name = name)) l v _ (hv.below hb0)
    (fun d u wx hx hu => ff1_any d name u w.heap.size wx hu (cell_below hx (by rw [World.cell?_alloc_at _ _ _ _ rfl]; rfl)))
  obtain ⟨A, c, rfl, _, _⟩ := hv.form
  clear hv
  go_enter Tryd.func75, Tryd.ntmps75
  go_wp2_with fail
  refine h1.mono ?_
  rintro e w2 ⟨rfl, hb2⟩
  go_wp2_with fail
  go_ret
  exact ⟨rfl, hb0.trans (hb2.mono (by simp))⟩
theorem fFind_cases (l : List Fld) (nm : ByteArray) : fFind l nm < 0 ∨ ∃ (i : Nat) (d : Fld), fFind l nm = i ∧ l[i]? = some d := by
  rcases Int.lt_or_le (fFind l nm) 0 with h | h
  · exact .inl h
  · obtain ⟨k, d, h1, h2, _⟩ := idxI_nonneg h
    exact .inr ⟨k, d, h1, h2⟩
theorem okF_neg {l : List Fld} {f : Fld} (h : fFind l f.name < 0) : okF l f = false := by
  unfold okF; split
  · simp [h]
  · rfl
theorem okF_at {l : List Fld} {f d : Fld} {i : Nat} (h : fFind l f.name = i) (hd : l[i]? = some d) : okF l f = (decide (d.ty = f.ty) && !(d.must && !f.must) && !(d.key && !f.key)) := by
  unfold okF; rw [h, Int.toNat_natCast, hd]
  simp only
  rw [decide_eq_false (by omega)]; simp
theorem ff2_any (a : List Fld) (d : Fld) (u va : Value) (bf ba : Nat) (w : World) (hu : fldV w d u) (hva : Sl fldL w va a) (hf : w.cell? ⟨bf, 0, none⟩ = some (.func (.func 75) #[] #[])) (ha : w.cell? ⟨ba, 0, none⟩ = some va) :
    Calls Tryd.prog 79 #[u, .pointer (some ⟨bf, 0, none⟩), .pointer (some ⟨ba, 0, none⟩)] w fun e w' => e = .returned (.bool (d.must && decide (fFind a d.name < 0))) ∧ Below w.heap.size w w' := by
  obtain ⟨rfl, _⟩ := hu
  obtain ⟨A, c, rfl, _, _⟩ := hva.form
  have hlf := World.block_lt_of_cell? _ _ hf
  have hla := World.block_lt_of_cell? _ _ ha
  have hb0 : Below w.heap.size w (w.alloc (.cells #[.string d.name, .int .i64 d.ty, .bool d.must, .bool d.key] 80)) := (Below.refl _ _).alloc (Nat.le_refl _) _
  have hcall := fFind_any a d.name _ _ (hva.below hb0)
  have hf := cell_below hb0 hf
  have ha := cell_below hb0 ha
  generalize fFind a d.name = z at *
  clear hva
  generalize d.must = m at *
  cases m with
  | false =>
    clear hcall
    go_enter Tryd.func79, Tryd.ntmps79
    go_wp2_with fail
    go_ret
    exact ⟨rfl, hb0⟩
  | true =>
    go_enter Tryd.func79, Tryd.ntmps79
    go_wp2_with fail
    refine hcall.mono ?_
    clear hcall
    rintro e w2 ⟨rfl, hb2⟩
    go_wp2_with fail
    go_ret
    exact ⟨rfl, hb0.trans (hb2.mono hb0.size)⟩
end Go.Proofs.YthefofclbepkoaaDoor

/- Contract: diff.fields. No condition. -/
namespace Go.Proofs.YthefofclbepkoaaDoor
open Go Go.RowKit



theorem fieldsW_no {a b : List Fld} {x : Fld} (hx : x ∈ a) (h : okF b x = false) : fieldsW a b = false := by
  unfold fieldsW
  have : a.all (okF b) = false := List.all_eq_false.2 ⟨x, hx, by simp [h]⟩
  rw [this]; rfl
theorem all_of {D : Type} {l : List D} {p : D → Bool} (h : ∀ j x, j < l.length → l[j]? = some x → p x = true) : l.all p = true := by
  rw [List.all_eq_true]
  intro x hx
  obtain ⟨j, hj⟩ := List.mem_iff_getElem?.1 hx
  exact h j x (List.getElem?_eq_some_iff.1 hj).1 hj
theorem hit_step {D : Type} {l : List D} {p : D → Bool} {k : Nat} {d : D} (h : ∀ j x, j < k → l[j]? = some x → p x = true) (hd : l[k]? = some d) (hp : p d = true) : ∀ j x, j < k + 1 → l[j]? = some x → p x = true := fun j x hj hx => by
  by_cases e : j = k
  · subst e; rw [hd] at hx; injection hx with hx; rw [← hx]; exact hp
  · exact h j x (by omega) hx
set_option maxRecDepth 100000 in
set_option maxHeartbeats 8000000 in
theorem dfields_any (a b : List Fld) (va vb : Value) (w : World) (ha : Sl fldL w va a) (hb : Sl fldL w vb b) :
    Calls Tryd.prog 41 #[va, vb] w fun e w' => e = .returned (.bool (fieldsW a b)) ∧ Below w.heap.size w w' := by
  obtain ⟨A, ca, rfl, _, hcm⟩ := ha.form
  obtain ⟨B, cb, rfl, _, hdm⟩ := hb.form
  unfold maxLen at hcm hdm
  obtain ⟨W0, hW0⟩ : ∃ W0, W0 = (w.alloc (.cells #[.slice A a.length ca] 40)).alloc (.cells #[.func (.func 75) #[] #[]] 132) := ⟨_, rfl⟩
  have hb0 : Below w.heap.size w W0 := by rw [hW0]; exact ((Below.refl _ _).alloc (Nat.le_refl _) _).alloc (by simp) _
  have g0 : W0.heap[w.heap.size]? = some (.cells #[.slice A a.length ca] 40 (0, 0)) := by
    rw [hW0, Below.heap_alloc _ _ _ (by simp)]; exact heap_alloc_new _ _
  have g1 : W0.heap[w.heap.size + 1]? = some (.cells #[.func (.func 75) #[] #[]] 132 (0, 0)) := by
    have := heap_alloc_new (w.alloc (.cells #[.slice A a.length ca] 40)) (.cells #[.func (.func 75) #[] #[]] 132); rw [hW0]; simpa using this
  have hW0' := hW0.symm
  have x0 := block_cell g0 0
  have y0 := block_cell g1 0
  have HA := Lib.hid (ha.below hb0)
  have HB := Lib.hid (hb.below hb0)
  have hw0 := hb0.size
  have HFW : Hid (fieldsW a b = (a.all (okF b) && !(b.any fun f => f.must && decide (fFind a f.name < 0)))) := rfl
  clear ha hb hW0 g0 g1
  go_enter Tryd.func41, Tryd.ntmps41
  go_wp2_with fail
  clear hW0'
  go_loopw [11] (fun i wr => ∃ k : Nat, k ≤ a.length ∧ i = .int .i64 k ∧ Below W0.heap.size W0 wr ∧ Hid (∀ j x, j < k → a[j]? = some x → okF b x = true)) (fun i _ => a.length - (intOf i).toNat)
  case atStart => exact ⟨0, Nat.zero_le _, rfl, Below.refl _ _, fun j x hj => absurd hj (Nat.not_lt_zero _)⟩
  case round =>
    obtain ⟨k, hk, rfl, hbr, HP⟩ := hrel
    have x0 := cell_below hbr x0
    have y0 := cell_below hbr y0
    by_cases hlt : k < a.length
    · obtain ⟨f, hd⟩ : ∃ d, a[k]? = some d := ⟨_, List.getElem?_eq_getElem hlt⟩
      obtain ⟨bb, o, rfl, hok, q0, q1, q2, q3⟩ := fld_at (HA.out.below hbr) hd
      have HD := Lib.hid hd
      have hlt' : (k : Int) < (a.length : Int) := by omega
      obtain ⟨z0, z1, z2, z3⟩ := cell_box4 wr (.string f.name) (.int .i64 f.ty) (.bool f.must) (.bool f.key) 80
      have ha1 : Below wr.heap.size wr (wr.alloc (.cells #[.string f.name, .int .i64 f.ty, .bool f.must, .bool f.key] 80)) := (Below.refl _ _).alloc (Nat.le_refl _) _
      have hbb := hbr.trans (ha1.mono hbr.size)
      have hcall := fFind_any b f.name _ _ (HB.out.below hbb)
      have hkc := fFind_cases b f.name
      have y0' := cell_below ha1 y0
      have HKN : Hid (fFind b f.name < 0 → okF b f = false) := okF_neg
      have HKA : Hid (∀ (i : Nat) x, fFind b f.name = i → b[i]? = some x → okF b f = (decide (x.ty = f.ty) && !(x.must && !f.must) && !(x.key && !f.key))) := fun i x h hx => okF_at h hx
      clear hd hok y0
      go_upto_region 5 with fail
      generalize wr.alloc (.cells #[.string f.name, .int .i64 f.ty, .bool f.must, .bool f.key] 80) = Wa at *
      generalize fFind b f.name = fz at *
      go_wp2_with fail
      refine hcall.mono ?_
      clear hcall
      rintro e w3 ⟨rfl, hb3⟩
      have z1 := cell_below hb3 z1
      have z2 := cell_below hb3 z2
      have z3 := cell_below hb3 z3
      have hb13 := hbb.trans (hb3.mono hbb.size)
      have hB3 := hb0.trans (hb13.mono hw0)
      clear y0' hb3 ha1 z0 x0 q0 q1 q2 q3
      rcases hkc with hn | ⟨i, d, rfl, hd2⟩
      · have hq := HKN.out hn
        have hn' : decide (fz < 0) = true := decide_eq_true hn
        have HF : Hid (fieldsW a b = false) := fieldsW_no (List.mem_of_getElem? HD.out) (hq)
        clear HFW HKN HKA HD
        go_wp2_with fail
        go_quiet (fail)
        go_wp2_with fail
        go_ret
        exact ⟨by rw [HF.out]; rfl, below_drewN hB3 _⟩
      · have hqe := HKA.out i d rfl hd2
        have hi := (List.getElem?_eq_some_iff.1 hd2).1
        have hi' : (i : Int) < (b.length : Int) := by omega
        have hn0 : decide ((i : Int) < 0) = false := decide_eq_false (by omega)
        obtain ⟨b3, o3, rfl, _, p0, p1, p2, p3⟩ := fld_at (HB.out.below hb13) hd2
        have HQE := Lib.hid hqe
        clear hqe hd2
        by_cases ht : d.ty = f.ty
        case neg =>
          have ht2 : (d.ty != f.ty) = true := by rw [bne_iff_ne]; exact ht
          have HZ : Hid (okF b f = false) := by unfold Hid; rw [HQE.out, decide_eq_false ht]; rfl
          clear ht HQE
          have HF : Hid (fieldsW a b = false) := fieldsW_no (List.mem_of_getElem? HD.out) (HZ.out)
          clear HFW HKN HKA HD
          go_wp2_with fail
          go_quiet (fail)
          go_wp2_with fail
          go_ret
          exact ⟨by rw [HF.out]; rfl, below_drewN hB3 _⟩
        have ht2 : (d.ty != f.ty) = false := by rw [bne_eq_false_iff_eq]; exact ht
        have HQ2 : Hid (okF b f = (!(d.must && !f.must) && !(d.key && !f.key))) := by unfold Hid; rw [HQE.out, decide_eq_true ht, Bool.true_and]
        clear ht HQE
        generalize d.must = m1 at *
        generalize d.key = k1 at *
        generalize f.must = m2 at *
        generalize f.key = k2 at *
        cases m1 with
        | true =>
          cases m2 with
          | false =>
            have HF : Hid (fieldsW a b = false) := fieldsW_no (List.mem_of_getElem? HD.out) (HQ2.out)
            clear HFW HKN HKA HD
            go_wp2_with fail
            go_quiet (fail)
            go_wp2_with fail
            go_ret
            exact ⟨by rw [HF.out]; rfl, below_drewN hB3 _⟩
          | true =>
            cases k1 with
            | true =>
              cases k2 with
              | false =>
                have HF : Hid (fieldsW a b = false) := fieldsW_no (List.mem_of_getElem? HD.out) (HQ2.out)
                clear HFW HKN HKA HD
                go_wp2_with fail
                go_quiet (fail)
                go_wp2_with fail
                go_ret
                exact ⟨by rw [HF.out]; rfl, below_drewN hB3 _⟩
              | true =>
                have HS : Hid (∀ j x, j < k + 1 → a[j]? = some x → okF b x = true) := hit_step HP.out HD.out (HQ2.out)
                clear HKN HKA HD
                go_wp2_with fail
                go_quiet (fail)
                go_wp2_with fail
                go_roundw
                case rel => exact ⟨k + 1, by omega, by go_num, below_drewN hb13 _, HS⟩
                case measure => simp [intOf]; omega
            | false =>
              have HS : Hid (∀ j x, j < k + 1 → a[j]? = some x → okF b x = true) := hit_step HP.out HD.out (HQ2.out)
              clear HKN HKA HD
              go_wp2_with fail
              go_quiet (fail)
              go_wp2_with fail
              go_roundw
              case rel => exact ⟨k + 1, by omega, by go_num, below_drewN hb13 _, HS⟩
              case measure => simp [intOf]; omega
        | false =>
          cases k1 with
          | true =>
            cases k2 with
            | false =>
              have HF : Hid (fieldsW a b = false) := fieldsW_no (List.mem_of_getElem? HD.out) (HQ2.out)
              clear HFW HKN HKA HD
              go_wp2_with fail
              go_quiet (fail)
              go_wp2_with fail
              go_ret
              exact ⟨by rw [HF.out]; rfl, below_drewN hB3 _⟩
            | true =>
              have HS : Hid (∀ j x, j < k + 1 → a[j]? = some x → okF b x = true) := hit_step HP.out HD.out (HQ2.out)
              clear HKN HKA HD
              go_wp2_with fail
              go_quiet (fail)
              go_wp2_with fail
              go_roundw
              case rel => exact ⟨k + 1, by omega, by go_num, below_drewN hb13 _, HS⟩
              case measure => simp [intOf]; omega
          | false =>
            have HS : Hid (∀ j x, j < k + 1 → a[j]? = some x → okF b x = true) := hit_step HP.out HD.out (HQ2.out)
            clear HKN HKA HD
            go_wp2_with fail
            go_quiet (fail)
            go_wp2_with fail
            go_roundw
            case rel => exact ⟨k + 1, by omega, by go_num, below_drewN hb13 _, HS⟩
            case measure => simp [intOf]; omega
    · obtain rfl : k = a.length := by omega
      have HQ : Hid (fieldsW a b = !(b.any fun f => f.must && decide (fFind a f.name < 0))) := by
        unfold Hid; rw [HFW.out, all_of HP.out, Bool.true_and]
      have hcall := cont_flds 79 #[.pointer (some ⟨w.heap.size + 1, 0, none⟩), .pointer (some ⟨w.heap.size, 0, none⟩)] (by intro args w; kernel_rfl) (fun f => f.must && decide (fFind a f.name < 0)) b _ wr (HB.out.below hbr)
        (fun d u wx hx hu => ff2_any a d u _ _ _ wx hu ((HA.out.below hbr).below hx) (cell_below hx y0) (cell_below hx x0))
      have hBr := hb0.trans (hbr.mono hw0)
      generalize (b.any fun f => f.must && decide (fFind a f.name < 0)) = q at *
      go_wp2_with fail
      refine hcall.mono ?_
      clear hcall
      rintro e w5 ⟨rfl, hb5⟩
      go_wp2_with fail
      go_ret
      exact ⟨by rw [HQ.out]; rfl, hBr.trans (hb5.mono hBr.size)⟩
end Go.Proofs.YthefofclbepkoaaDoor
