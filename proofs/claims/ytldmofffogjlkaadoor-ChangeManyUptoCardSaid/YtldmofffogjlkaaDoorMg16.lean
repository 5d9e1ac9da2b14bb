/- Parts: ChB, DelD, DelT, DelO. -/
import Derived.Test.YtldmofffogjlkaaDoorMg15
import Derived.Deep.RegionLaw
import Derived.Test.YtldmofffogjlkaaDoorMg11
import Derived.Test.YtldmofffogjlkaaDoorMg13
import Derived.Test.YtldmofffogjlkaaDoorMg12
import Derived.Test.YtldmofffogjlkaaDoorMg14
/- Contract: change.add. -/
namespace Go.Proofs.YtldmofffogjlkaaDoor
open Go Go.RowKit


def addE (fs : List Fld) (f : Fld) (v : Val) : Int :=
  if chas fs f.name then 7 else if f.key = true ∨ (f.must = true ∧ v.ty = 0) then 3 else if v.ty = 0 then 0 else if valE v = 0 then (if v.ty = f.ty then 0 else 8) else valE v
def addF (fs : List Fld) (f : Fld) : List Fld := fs.take (cpos fs f.name) ++ f :: fs.drop (cpos fs f.name)
/-- What comes of a change of one kind's fields. -/
def RetKF (B : Nat) (vk vb : Value) (s : Scm) (err : Int) (w : World) (e : Ending) (w' : World) : Prop :=
  e = .returned (errV err) ∧ (err = 0 → ∃ xs, OwnS w' B vk vb s xs) ∧ Below B w w' ∧ Same 25 w w' ∧ w.heap.size ≤ w'.heap.size
set_option maxRecDepth 100000 in
set_option maxHeartbeats 8000000 in
theorem cadd_any (s : Scm) (i : Nat) (d : Knd) (f : Fld) (v : Val) (gb o ck : Nat) (vb : Value) (xs : List Value) (B : Nat) (w : World) (hB : B ≤ w.heap.size) (hS : OwnS w B (.slice (some ⟨gb, o, none⟩) s.kinds.length ck) vb s xs) (hd : s.kinds[i]? = some d)
    (hc : chain fldLt d.fields = true) (hl : d.fields.length ≤ 1000) (hf : f.ok) (hsv : v.ok) :
    Calls Tryd.prog 117 #[.pointer (some ⟨gb, o + i * 3, none⟩), .agg #[.string f.name, .int .i64 f.ty, .bool f.must, .bool f.key], .agg #[.int .i64 v.ty, .int .i64 v.n, .string v.s]] w (RetKF B (.slice (some ⟨gb, o, none⟩) s.kinds.length ck) vb (setF s i d (addF d.fields f)) (addE d.fields f v) w) := by
  obtain ⟨W0, hW0⟩ : ∃ W0, W0 = (w.alloc (.cells #[.string f.name, .int .i64 f.ty, .bool f.must, .bool f.key] 38)).alloc (.cells #[.int .i64 v.ty, .int .i64 v.n, .string v.s] 40) := ⟨_, rfl⟩
  have hb0 : Below w.heap.size w W0 := by rw [hW0]; exact ((Below.refl _ _).alloc (Nat.le_refl _) _).alloc (by simp) _
  have g0 : W0.heap[w.heap.size]? = some (.cells #[.string f.name, .int .i64 f.ty, .bool f.must, .bool f.key] 38 (0, 0)) := by rw [hW0, Below.heap_alloc _ _ _ (by simp)]; exact heap_alloc_new _ _
  have g1 : W0.heap[w.heap.size + 1]? = some (.cells #[.int .i64 v.ty, .int .i64 v.n, .string v.s] 40 (0, 0)) := by
    have := heap_alloc_new (w.alloc (.cells #[.string f.name, .int .i64 f.ty, .bool f.must, .bool f.key] 38)) (.cells #[.int .i64 v.ty, .int .i64 v.n, .string v.s] 40); rw [hW0]; simpa using this
  have hsz : W0.heap.size = w.heap.size + 2 := by rw [hW0]; simp
  have hW0' := hW0.symm
  have hS0 := hS.below hb0
  obtain ⟨u, x, k0, k1, k2, hnm, hof, ou, hfo, ox⟩ := hS0.o.get hd
  have c0 : W0.cell? ⟨gb, o + i * 3, none⟩ = some (.string d.name) := hS0.n.cell rfl k0
  have c1 : W0.cell? ⟨gb, o + i * 3 + 1, none⟩ = some u := hS0.n.cell (j := i * 3 + 1) rfl k1
  have c2 : W0.cell? ⟨gb, o + i * 3 + 2, none⟩ = some x := hS0.n.cell (j := i * 3 + 2) rfl k2
  obtain ⟨Au, cu, rfl, _, _⟩ := ou.form
  obtain ⟨Ax, cx, rfl, _, _⟩ := ox.form
  have x0 := block_cell g0 0
  have x1 := block_cell g0 1
  have x2 := block_cell g0 2
  have x3 := block_cell g0 3
  have y0 := block_cell g1 0
  have y1 := block_cell g1 1
  have y2 := block_cell g1 2
  have HS := Lib.hid hS0
  have HD := Lib.hid hd
  have HSL := Lib.hid (show Sl fldL W0 (.slice Ax d.fields.length cx) d.fields from ox.flds hfo)
  have HC := Lib.hid hc
  have HADD : Hid (addE d.fields f v = if chas d.fields f.name then 7 else if f.key = true ∨ (f.must = true ∧ v.ty = 0) then 3 else if v.ty = 0 then 0 else if valE v = 0 then (if v.ty = f.ty then 0 else 8) else valE v) := rfl
  have HK2 := Lib.hid k2
  have HAF : Hid (addF d.fields f = d.fields.take (cpos d.fields f.name) ++ f :: d.fields.drop (cpos d.fields f.name)) := rfl
  have HAL : Hid ((addF d.fields f).length = d.fields.length + 1) := by
    have := lowI_le (fldC f.name) d.fields
    unfold Hid addF cpos; simp; omega
  have HAOK : Hid ((∀ p ∈ d.fields, p.ok) → ∀ p ∈ addF d.fields f, p.ok) := fun h p hp => by
    unfold addF at hp
    rcases List.mem_append.1 hp with hp | hp
    · exact h p (List.mem_of_mem_take hp)
    · rcases List.mem_cons.1 hp with rfl | hp
      · exact hf
      · exact h p (List.mem_of_mem_drop hp)
  clear hS hS0 hd hc hW0 ou ox k0 k1 k2 hof hnm hfo
  go_enter Tryd.func117, Tryd.ntmps117
  go_wp2_with fail
  refine wp_mid_k 5 _ rfl rfl (by kernel_rfl) (by kernel_rfl) ?_
  simp only [List.take_succ_cons, List.take_zero, List.drop_succ_cons, List.drop_zero]
  repeat (go_big_quiet_step (fail))
  refine wpQuiet_nil ?_
  intro _ hw'
  obtain ⟨nq, hw''⟩ := hw'
  subst hw''
  intro K hK
  have hcf := cfield_any d.name d.fields f.name Au d.ofs.length cu (.slice Ax d.fields.length cx) (W0.drewN nq) (HSL.out.below (below_drewN (Below.refl _ _) nq)) HC.out hl
  generalize hQ : chas d.fields f.name = q at *
  generalize hKp : cpos d.fields f.name = Kp at *
  go_wp2_with fail
  refine hcf.mono ?_
  clear hcf
  rintro e w1 ⟨rfl, hb1⟩
  have hb01 := (below_drewN (Below.refl W0.heap.size W0) nq).trans hb1
  refine hK _ _ ?_
  repeat (go_big_quiet_step (fail))
  refine wpQuiet_nil ?_
  intro _ hw'
  obtain ⟨nq2, hw''⟩ := hw'
  subst hw''
  clear hK
  have hbW := below_drewN hb01 nq2
  generalize w1.drewN nq2 = W1 at *
  have x0 := cell_below hbW x0
  have x1 := cell_below hbW x1
  have x2 := cell_below hbW x2
  have x3 := cell_below hbW x3
  have y0 := cell_below hbW y0
  have y1 := cell_below hbW y1
  have y2 := cell_below hbW y2
  have c2 := cell_below hbW c2
  have HS1 := Lib.hid (HS.out.below hbW)
  have hbw := hb0.trans (hbW.mono hb0.size)
  have hws := hbw.size
  have HB := Lib.hid (hbw.mono hB)
  have HSM : Hid (Same 25 w W1) := Same.below hbw
  have hKl : Kp ≤ d.fields.length := by rw [← hKp]; exact lowI_le _ _
  clear hb1 hb01 hbW hQ HSL HS hb0 c0 c1 g0 g1
  cases q with
  | true =>
    have HF : Hid (addE d.fields f v = 7) := by unfold Hid; rw [HADD.out]; rfl
    clear HADD
    go_wp2_with fail
    go_ret
    exact ⟨by rw [HF.out]; rfl, (fun h => by rw [HF.out] at h; omega), HB.out, HSM.out, hws⟩
  | false =>
    have HA2 : Hid (addE d.fields f v = if f.key = true ∨ (f.must = true ∧ v.ty = 0) then 3 else if v.ty = 0 then 0 else if valE v = 0 then (if v.ty = f.ty then 0 else 8) else valE v) := by unfold Hid; rw [HADD.out]; rfl
    clear HADD
    cases hk : f.key with
    | true =>
      have HF : Hid (addE d.fields f v = 3) := by unfold Hid; rw [HA2.out, if_pos (.inl hk)]
      rw [hk] at x3
      clear HA2
      go_wp2_with fail
      go_ret
      exact ⟨by rw [HF.out]; rfl, (fun h => by rw [HF.out] at h; omega), HB.out, HSM.out, hws⟩
    | false =>
      rw [hk] at x3
      by_cases hm : f.must = true ∧ v.ty = 0
      · have HF : Hid (addE d.fields f v = 3) := by unfold Hid; rw [HA2.out, if_pos (.inr hm)]
        obtain ⟨hm1, hm2⟩ := hm
        rw [hm1] at x2
        rw [hm2] at y0
        clear HA2
        go_wp2_with fail
        go_ret
        exact ⟨by rw [HF.out]; rfl, (fun h => by rw [HF.out] at h; omega), HB.out, HSM.out, hws⟩
      · have HA3 : Hid (addE d.fields f v = if v.ty = 0 then 0 else if valE v = 0 then (if v.ty = f.ty then 0 else 8) else valE v) := by
          unfold Hid; rw [HA2.out, if_neg (by rw [hk]; simpa using hm)]
        clear HA2
        by_cases hz : v.ty = 0
        · have HF : Hid (addE d.fields f v = 0) := by unfold Hid; rw [HA3.out, if_pos hz]
          have hmf : f.must = false := by
            cases h : f.must with
            | false => rfl
            | true => exact absurd ⟨h, hz⟩ hm
          have HENC : Hid (f.enc = [.string f.name, .int .i64 f.ty, .bool false, .bool false]) := by unfold Hid Fld.enc; rw [hk, hmf]
          rw [hz] at y0
          rw [hmf] at x2
          clear HA3 hm hk hz hmf
          have hxb : Below W1.heap.size W1 (W1.alloc (.cells #[.string f.name, .int .i64 f.ty, .bool false, .bool false] 38)) := (Below.refl _ _).alloc (Nat.le_refl _) _
          have hxd := hxb.drew
          have hSx := HS1.out.below hxd
          obtain ⟨_, _, _, _, k2x, _, _, _, hfo, ox⟩ := hSx.o.get HD.out
          obtain rfl := Option.some.inj (HK2.out.symm.trans k2x)
          have hil := ins_fld_at (W1.alloc (.cells #[.string f.name, .int .i64 f.ty, .bool false, .bool false] 38)).drew B (.slice Ax d.fields.length cx) d.fields.length (d.fields.flatMap Fld.enc) ox Kp hKl W1.heap.size f.enc rfl (by rw [HENC.out]; exact heap_alloc_new W1 _) f.enc_one (oneCell_flat Fld.enc_one d.fields)
            (fun e => by
              obtain ⟨_, _, _, _, k2y, _, _, _, _, oy⟩ := HS1.out.o.get HD.out
              obtain rfl := Option.some.inj (HK2.out.symm.trans k2y)
              have := (oy.lt _ e).2; omega) (by have := hxd.size; omega) (by omega)
          have hfi := flat_insert Fld.enc_len d.fields Kp hKl f
          rw [hfi, ← HAF.out] at hil
          have HFO := Lib.hid hfo
          have HSX := Lib.hid hSx
          have HBX := Lib.hid hxd
          have c2x := cell_below hxb c2
          have x0x := cell_below hxb x0
          have x1x := cell_below hxb x1
          have x2x := cell_below hxb x2
          have x3x := cell_below hxb x3
          have HOX := Lib.hid (ox.lt)
          clear hfi hSx ox k2x hfo
          go_wp2_with fail
          go_region_law
            (first
              | (refine step_callx rfl 142 #[.slice Ax d.fields.length cx, .int .i64 Kp, .slice (some ⟨W1.heap.size, 0, none⟩) 1 1] (by kernel_rfl) hil ?_
                 rintro e w5 ⟨u5, rfl, ho5, hg5, hat5⟩
                 refine ⟨_, rfl, ?_⟩
                 have hfin := field_put HSX.out HD.out HK2.out (by rw [HAL.out]; exact ho5) hg5 hat5 (HAOK.out HFO.out)
                 have hfr := hfin.2.2.1
                 have hcl := hfin.2.2.2.1
                 obtain ⟨A5, c5, rfl, _, _⟩ := ho5.form))
          all_goals
            have hbw5 : Below B w w5 := (HB.out.trans (HBX.out.mono (by omega))).grown hg5 (by have := HBX.out.size; omega) (fun k e => (HOX.out k e).1)
            have hs5 := hg5.size
            have hs6 := HBX.out.size
            have hsm := HSM.out.trans ((Same.below HBX.out).trans (hfin.2.1 25 (by decide) (by decide)))
            have hgB := hfin.2.2.2.2
            have HFIN := Lib.hid hfin.1
            clear hfin ho5 hg5 hat5 hil c2x x0x x1x x2x x3x
            go_wp2_with fail
            go_ret
            exact ⟨by rw [HF.out]; rfl, (fun _ => ⟨_, HFIN.out⟩), hbw5.setCell (p := ⟨gb, o + i * 3 + 2, none⟩) hgB _, hsm, by simp [World.setCell]; omega⟩
        · have hzb : (v.ty == 0) = false := beq_eq_false_iff_ne.2 hz
          have hzn : (v.ty != 0) = true := bne_iff_ne.2 hz
          have HA4 : Hid (addE d.fields f v = if valE v = 0 then (if v.ty = f.ty then 0 else 8) else valE v) := by unfold Hid; rw [HA3.out, if_neg hz]
          have hvc := check_any v hsv W1
          cases hmf : f.must with
          | false =>
            have HENC : Hid (f.enc = [.string f.name, .int .i64 f.ty, .bool false, .bool false]) := by unfold Hid Fld.enc; rw [hk, hmf]
            rw [hmf] at x2
            clear HA3 hm hk hmf
            go_wp2_with fail
            refine hvc.mono ?_
            clear hvc
            rintro e W2 ⟨rfl, hb2⟩
            have HB2 : Hid (Below B w W2) := HB.out.trans (hb2.mono (by omega))
            have HSM2 : Hid (Same 25 w W2) := HSM.out.trans (Same.below hb2)
            have HS2 := Lib.hid (HS1.out.below hb2)
            have x0 := cell_below hb2 x0
            have x1 := cell_below hb2 x1
            have x2 := cell_below hb2 x2
            have x3 := cell_below hb2 x3
            have y0 := cell_below hb2 y0
            have c2 := cell_below hb2 c2
            have hws2 : w.heap.size ≤ W2.heap.size := by have := hb2.size; omega
            by_cases hve : valE v = 0
            case neg =>
              have HF : Hid (errV (addE d.fields f v) = .iface 87 (.int .i64 (valE v)) ∧ ¬ addE d.fields f v = 0) := by
                have h0 : addE d.fields f v = valE v := by rw [HA4.out, if_neg hve]
                exact ⟨by rw [h0]; exact errV_some hve, by rw [h0]; exact hve⟩
              rw [errV_some hve]
              clear HA4 hve
              go_wp2_with fail
              go_ret
              exact ⟨by rw [HF.out.1]; rfl, (fun h => absurd h HF.out.2), HB2.out, HSM2.out, hws2⟩
            have HA5 : Hid (addE d.fields f v = if v.ty = f.ty then 0 else 8) := by unfold Hid; rw [HA4.out, if_pos hve]
            rw [errV_zero hve]
            clear HA4 hve
            by_cases ht : v.ty = f.ty
            · have HF : Hid (addE d.fields f v = 0) := by unfold Hid; rw [HA5.out, if_pos ht]
              rw [ht] at y0
              clear HA5 ht
              have hxb : Below W2.heap.size W2 (W2.alloc (.cells #[.string f.name, .int .i64 f.ty, .bool false, .bool false] 38)) := (Below.refl _ _).alloc (Nat.le_refl _) _
              have hxd := hxb.drew
              have hSx := HS2.out.below hxd
              obtain ⟨_, _, _, _, k2x, _, _, _, hfo, ox⟩ := hSx.o.get HD.out
              obtain rfl := Option.some.inj (HK2.out.symm.trans k2x)
              have hil := ins_fld_at (W2.alloc (.cells #[.string f.name, .int .i64 f.ty, .bool false, .bool false] 38)).drew B (.slice Ax d.fields.length cx) d.fields.length (d.fields.flatMap Fld.enc) ox Kp hKl W2.heap.size f.enc rfl (by rw [HENC.out]; exact heap_alloc_new W2 _) f.enc_one (oneCell_flat Fld.enc_one d.fields)
                (fun e => by
                  obtain ⟨_, _, _, _, k2y, _, _, _, _, oy⟩ := HS2.out.o.get HD.out
                  obtain rfl := Option.some.inj (HK2.out.symm.trans k2y)
                  have := (oy.lt _ e).2; omega) (by have := hxd.size; omega) (by omega)
              have hfi := flat_insert Fld.enc_len d.fields Kp hKl f
              rw [hfi, ← HAF.out] at hil
              have HFO := Lib.hid hfo
              have HSX := Lib.hid hSx
              have HBX := Lib.hid hxd
              have c2x := cell_below hxb c2
              have x0x := cell_below hxb x0
              have x1x := cell_below hxb x1
              have x2x := cell_below hxb x2
              have x3x := cell_below hxb x3
              have HOX := Lib.hid (ox.lt)
              clear hfi hSx ox k2x hfo
              go_wp2_with fail
              go_region_law
                (first
                  | (refine step_callx rfl 142 #[.slice Ax d.fields.length cx, .int .i64 Kp, .slice (some ⟨W2.heap.size, 0, none⟩) 1 1] (by kernel_rfl) hil ?_
                     rintro e w5 ⟨u5, rfl, ho5, hg5, hat5⟩
                     refine ⟨_, rfl, ?_⟩
                     have hfin := field_put HSX.out HD.out HK2.out (by rw [HAL.out]; exact ho5) hg5 hat5 (HAOK.out HFO.out)
                     have hfr := hfin.2.2.1
                     have hcl := hfin.2.2.2.1
                     obtain ⟨A5, c5, rfl, _, _⟩ := ho5.form))
              all_goals
                have hbw5 : Below B w w5 := (HB2.out.trans (HBX.out.mono (by omega))).grown hg5 (by have := HBX.out.size; omega) (fun k e => (HOX.out k e).1)
                have hs5 := hg5.size
                have hs6 := HBX.out.size
                have hsm := HSM2.out.trans ((Same.below HBX.out).trans (hfin.2.1 25 (by decide) (by decide)))
                have hgB := hfin.2.2.2.2
                have HFIN := Lib.hid hfin.1
                clear hfin ho5 hg5 hat5 hil c2x x0x x1x x2x x3x
                go_wp2_with fail
                go_ret
                exact ⟨by rw [HF.out]; rfl, (fun _ => ⟨_, HFIN.out⟩), hbw5.setCell (p := ⟨gb, o + i * 3 + 2, none⟩) hgB _, hsm, by simp [World.setCell]; omega⟩
            · have HF : Hid (addE d.fields f v = 8) := by unfold Hid; rw [HA5.out, if_neg ht]
              have htn : (v.ty != f.ty) = true := bne_iff_ne.2 ht
              clear HA5
              go_wp2_with fail
              go_ret
              exact ⟨by rw [HF.out]; rfl, (fun h => by rw [HF.out] at h; omega), HB2.out, HSM2.out, hws2⟩
          | true =>
            have HENC : Hid (f.enc = [.string f.name, .int .i64 f.ty, .bool true, .bool false]) := by unfold Hid Fld.enc; rw [hk, hmf]
            rw [hmf] at x2
            clear HA3 hm hk hmf
            go_wp2_with fail
            refine hvc.mono ?_
            clear hvc
            rintro e W2 ⟨rfl, hb2⟩
            have HB2 : Hid (Below B w W2) := HB.out.trans (hb2.mono (by omega))
            have HSM2 : Hid (Same 25 w W2) := HSM.out.trans (Same.below hb2)
            have HS2 := Lib.hid (HS1.out.below hb2)
            have x0 := cell_below hb2 x0
            have x1 := cell_below hb2 x1
            have x2 := cell_below hb2 x2
            have x3 := cell_below hb2 x3
            have y0 := cell_below hb2 y0
            have c2 := cell_below hb2 c2
            have hws2 : w.heap.size ≤ W2.heap.size := by have := hb2.size; omega
            by_cases hve : valE v = 0
            case neg =>
              have HF : Hid (errV (addE d.fields f v) = .iface 87 (.int .i64 (valE v)) ∧ ¬ addE d.fields f v = 0) := by
                have h0 : addE d.fields f v = valE v := by rw [HA4.out, if_neg hve]
                exact ⟨by rw [h0]; exact errV_some hve, by rw [h0]; exact hve⟩
              rw [errV_some hve]
              clear HA4 hve
              go_wp2_with fail
              go_ret
              exact ⟨by rw [HF.out.1]; rfl, (fun h => absurd h HF.out.2), HB2.out, HSM2.out, hws2⟩
            have HA5 : Hid (addE d.fields f v = if v.ty = f.ty then 0 else 8) := by unfold Hid; rw [HA4.out, if_pos hve]
            rw [errV_zero hve]
            clear HA4 hve
            by_cases ht : v.ty = f.ty
            · have HF : Hid (addE d.fields f v = 0) := by unfold Hid; rw [HA5.out, if_pos ht]
              rw [ht] at y0
              clear HA5 ht
              have hxb : Below W2.heap.size W2 (W2.alloc (.cells #[.string f.name, .int .i64 f.ty, .bool true, .bool false] 38)) := (Below.refl _ _).alloc (Nat.le_refl _) _
              have hxd := hxb.drew
              have hSx := HS2.out.below hxd
              obtain ⟨_, _, _, _, k2x, _, _, _, hfo, ox⟩ := hSx.o.get HD.out
              obtain rfl := Option.some.inj (HK2.out.symm.trans k2x)
              have hil := ins_fld_at (W2.alloc (.cells #[.string f.name, .int .i64 f.ty, .bool true, .bool false] 38)).drew B (.slice Ax d.fields.length cx) d.fields.length (d.fields.flatMap Fld.enc) ox Kp hKl W2.heap.size f.enc rfl (by rw [HENC.out]; exact heap_alloc_new W2 _) f.enc_one (oneCell_flat Fld.enc_one d.fields)
                (fun e => by
                  obtain ⟨_, _, _, _, k2y, _, _, _, _, oy⟩ := HS2.out.o.get HD.out
                  obtain rfl := Option.some.inj (HK2.out.symm.trans k2y)
                  have := (oy.lt _ e).2; omega) (by have := hxd.size; omega) (by omega)
              have hfi := flat_insert Fld.enc_len d.fields Kp hKl f
              rw [hfi, ← HAF.out] at hil
              have HFO := Lib.hid hfo
              have HSX := Lib.hid hSx
              have HBX := Lib.hid hxd
              have c2x := cell_below hxb c2
              have x0x := cell_below hxb x0
              have x1x := cell_below hxb x1
              have x2x := cell_below hxb x2
              have x3x := cell_below hxb x3
              have HOX := Lib.hid (ox.lt)
              clear hfi hSx ox k2x hfo
              go_wp2_with fail
              go_region_law
                (first
                  | (refine step_callx rfl 142 #[.slice Ax d.fields.length cx, .int .i64 Kp, .slice (some ⟨W2.heap.size, 0, none⟩) 1 1] (by kernel_rfl) hil ?_
                     rintro e w5 ⟨u5, rfl, ho5, hg5, hat5⟩
                     refine ⟨_, rfl, ?_⟩
                     have hfin := field_put HSX.out HD.out HK2.out (by rw [HAL.out]; exact ho5) hg5 hat5 (HAOK.out HFO.out)
                     have hfr := hfin.2.2.1
                     have hcl := hfin.2.2.2.1
                     obtain ⟨A5, c5, rfl, _, _⟩ := ho5.form))
              all_goals
                have hbw5 : Below B w w5 := (HB2.out.trans (HBX.out.mono (by omega))).grown hg5 (by have := HBX.out.size; omega) (fun k e => (HOX.out k e).1)
                have hs5 := hg5.size
                have hs6 := HBX.out.size
                have hsm := HSM2.out.trans ((Same.below HBX.out).trans (hfin.2.1 25 (by decide) (by decide)))
                have hgB := hfin.2.2.2.2
                have HFIN := Lib.hid hfin.1
                clear hfin ho5 hg5 hat5 hil c2x x0x x1x x2x x3x
                go_wp2_with fail
                go_ret
                exact ⟨by rw [HF.out]; rfl, (fun _ => ⟨_, HFIN.out⟩), hbw5.setCell (p := ⟨gb, o + i * 3 + 2, none⟩) hgB _, hsm, by simp [World.setCell]; omega⟩
            · have HF : Hid (addE d.fields f v = 8) := by unfold Hid; rw [HA5.out, if_neg ht]
              have htn : (v.ty != f.ty) = true := bne_iff_ne.2 ht
              clear HA5
              go_wp2_with fail
              go_ret
              exact ⟨by rw [HF.out]; rfl, (fun h => by rw [HF.out] at h; omega), HB2.out, HSM2.out, hws2⟩
end Go.Proofs.YtldmofffogjlkaaDoor

/- Plain law of the model: the shift down of slices.Delete, by one element. No condition. -/
namespace Go.Proofs.YtldmofffogjlkaaDoor
open Go Go.RowKit

theorem Own.shift {P : Program} {w : World} {B : Nat} {e : TypeId} {g o n c i sz : Nat} {xs : List Value} (t : TypeId) (i0 : TypeInfo) (ht : P.underlying t = some (.slice e)) (hi : P.info? e = some i0) (hs : i0.size = sz)
    (h : Own w B e sz (.slice (some ⟨g, o, none⟩) n c) n xs) (hx1 : ∀ u ∈ xs, u.oneCell' = true) (hin : i < n) (a : Addr) (ha : ∀ j u, (xs.drop ((i + 1) * sz))[j]? = some u → w.cell? (a.add j) = some u) :
    ∃ w', (∀ ty c', (Builtin.append_ #[t, t] ty #[.slice (some ⟨g, o, none⟩) i c, .slice (some a) (n - (i + 1)) c']).run P w = .ok (.slice (some ⟨g, o, none⟩) (n - 1) c) w') ∧
      Own w' B e sz (.slice (some ⟨g, o, none⟩) n c) n (xs.take (i * sz) ++ xs.drop ((i + 1) * sz) ++ xs.drop ((n - 1) * sz)) ∧ w.grownBy w' (some g) := by
  rcases h.2 with ⟨h0, _⟩ | ⟨g', o', cap, cur, hv, hb, hg, h2, h3, h4, h5⟩
  · cases h0
  · injection hv with e1 _ e3
    injection e1 with e1
    injection e1 with e1 e2
    subst e1; subst e2; subst e3
    have hlen := h.1
    have hnc : n * sz ≤ c * sz := Nat.mul_le_mul_right _ h2
    have hin2 : i * sz + sz ≤ n * sz := by have := Nat.mul_le_mul_right sz (show i + 1 ≤ n by omega); rw [Nat.add_mul, Nat.one_mul] at this; exact this
    have e5 : (i + 1) * sz = i * sz + sz := by rw [Nat.add_mul, Nat.one_mul]
    have e6 : (n - 1) * sz = n * sz - sz := by rw [Nat.sub_mul, Nat.one_mul]
    have e7 : (n - (i + 1)) * sz = n * sz - (i * sz + sz) := by rw [Nat.sub_mul, e5]
    have hdl : (xs.drop ((i + 1) * sz)).length = (n - (i + 1)) * sz := by rw [List.length_drop, hlen, Nat.sub_mul]
    have e8 : i + (n - (i + 1)) = n - 1 := by omega
    refine ⟨w.setRow g (cur.toList.take (o + i * sz) ++ xs.drop ((i + 1) * sz) ++ cur.toList.drop (o + i * sz + (xs.drop ((i + 1) * sz)).length)).toArray, fun ty c' => ?_, ⟨?_, .inr ⟨g, o, c, _, rfl, hb, setRow_heap w g cur _ e _ hg, h2, h3, ?_, ?_⟩⟩, grownBy_setRow⟩
    · have := run_append_at (P := P) w t ty e i0 ht hi g o i c cur hg a (n - (i + 1)) c' (xs.drop ((i + 1) * sz)) (by rw [hs, hdl]) ha (fun u hu => hx1 u (List.mem_of_mem_drop hu)) (by omega) (by rw [hs, hdl, e7]; omega)
      rw [hs, e8] at this
      exact this
    · simp only [List.length_append, List.length_take, List.length_drop, hlen, e5, e6]
      omega
    · simp only [List.size_toArray, List.length_append, List.length_take, List.length_drop, Array.length_toList, hlen, e5]
      omega
    · have hcl : cur.toList = cur.toList.take o ++ xs ++ cur.toList.drop (o + n * sz) := by
        conv => lhs; rw [← List.take_append_drop o cur.toList, ← List.take_append_drop (n * sz) (cur.toList.drop o), h5]
        rw [List.drop_drop, List.append_assoc]
      have hol : (cur.toList.take o).length = o := by simp; omega
      generalize cur.toList.take o = A at *
      generalize cur.toList.drop (o + n * sz) = C at *
      rw [hcl, hdl, e7, e5, e6]
      subst hol
      have hxs : xs = xs.take (i * sz) ++ xs.drop (i * sz) := (List.take_append_drop _ _).symm
      have t1 : (A ++ xs ++ C).take (A.length + i * sz) = A ++ xs.take (i * sz) := by
        rw [List.append_assoc, List.take_append, List.take_of_length_le (by omega), show A.length + i * sz - A.length = i * sz by omega, List.take_append_of_le_length (by omega)]
      have t2 : (A ++ xs ++ C).drop (A.length + i * sz + (n * sz - (i * sz + sz))) = xs.drop (n * sz - sz) ++ C := by
        rw [List.append_assoc, List.drop_append, List.drop_of_length_le (by omega), List.nil_append, List.drop_append_of_le_length (by omega)]
        congr 2
        omega
      rw [t1, t2]
      show ((A ++ xs.take (i * sz) ++ xs.drop (i * sz + sz) ++ (xs.drop (n * sz - sz) ++ C)).drop A.length).take (n * sz) = _
      rw [List.append_assoc, List.append_assoc, List.drop_left]
      rw [show xs.take (i * sz) ++ (xs.drop (i * sz + sz) ++ (xs.drop (n * sz - sz) ++ C)) = (xs.take (i * sz) ++ xs.drop (i * sz + sz) ++ xs.drop (n * sz - sz)) ++ C by simp]
      rw [List.take_append_of_le_length (by simp; omega), List.take_of_length_le (by simp; omega)]
end Go.Proofs.YtldmofffogjlkaaDoor

/- Contract: slices.DeleteFunc at []Tie. -/
namespace Go.Proofs.YtldmofffogjlkaaDoor
open Go Go.RowKit




def tieAg (_ : World) (d : Tie) (u : Value) : Prop := u = .agg #[.string d.bond, .int .i64 d.src, .int .i64 d.dst] ∧ d.ok
theorem del_ties_info : (Tryd.prog.info? 105).map (fun i => (i.zero, i.size, i.bytes)) = some (some (.agg #[.string .empty, .int .i64 0, .int .i64 0]), 3, 32) := by kernel_rfl
end Go.Proofs.YtldmofffogjlkaaDoor

/- Contracts: slices.Delete of one node, of one tie, of one property. -/
namespace Go.Proofs.YtldmofffogjlkaaDoor
open Go Go.RowKit

theorem wp_append_z {P : Program} (w : World) {o : Oper} {a : Act} {K : Act → World → Prop} {Q : Exit → Act → World → Prop} (s x : Operand) (t tn : TypeId)
    (ho : o.op = .call { callee := .builtin .append, args := #[s, x], argTypes := #[t, tn] }) (v u : Value) (hs : a.eval s = v) (hx : a.eval x = u) {v' : Value} {w' : World}
    (hr : (Builtin.append_ #[t, tn] o.type #[v, u]).run P w = .ok v' w') (h : K (a.put o.dst v') w') : o.wp P a w K Q := by
  unfold Oper.wp execOp
  simp only [ho, resolve, invoke, builtin, Sem.run_bind, Sem.run_pure, Result.andThen_ok, List.map_toArray, List.map_cons, List.map_nil, hs, hx, hr]
  exact h


end Go.Proofs.YtldmofffogjlkaaDoor
