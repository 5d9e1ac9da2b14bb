/- Parts: ChD, ChE, ChF. -/
import Derived.Test.YtldmofffogjlkaaDoorMg17
import Derived.Test.YtldmofffogjlkaaDoorMg09
/- Contract: change.fields. -/
namespace Go.Proofs.YtldmofffogjlkaaDoor
open Go Go.RowKit


structure Chg where
  what : Int
  name : ByteArray
  kind : Knd
  bond : Bnd
  fld : Fld
  val : Val
  tow : ByteArray
def chgCells (c : Chg) (vo vf : Value) : Array Value := #[.int .i64 c.what, .string c.name, .string c.kind.name, vo, vf, .string c.bond.name, .string c.bond.src, .string c.bond.dst, .int .i64 c.bond.mn, .int .i64 c.bond.mx, .string c.fld.name, .int .i64 c.fld.ty, .bool c.fld.must, .bool c.fld.key, .int .i64 c.val.ty, .int .i64 c.val.n, .string c.val.s, .string c.tow]
structure ChgR (w : World) (vo vf : Value) (c : Chg) : Prop where
  n : Sm c.name
  kn : Sm c.kind.name
  ko : Sl strL w vo c.kind.ofs
  kf : Sl fldL w vf c.kind.fields
  b : c.bond.ok
  f : c.fld.ok
  v : c.val.ok
  t : Sm c.tow
theorem ChgR.below {w w' : World} {vo vf : Value} {c : Chg} (h : ChgR w vo vf c) (hb : Below w.heap.size w w') : ChgR w' vo vf c := ⟨h.n, h.kn, h.ko.below hb, h.kf.below hb, h.b, h.f, h.v, h.t⟩
/-- A schema of the call's own, in a block. -/
structure SW (w : World) (B bs : Nat) (vk vb : Value) (s : Scm) (xs : List Value) : Prop where
  q : w.heap[bs]? = some (.cells #[vk, vb] 25 (0, 0))
  o : OwnS w B vk vb s xs
  l : B ≤ bs
/-- What comes of a change of a schema that lies in a block. -/
def RetSW (B bs : Nat) (s : Scm) (err : Int) (w : World) (e : Ending) (w' : World) : Prop :=
  e = .returned (errV err) ∧ (err = 0 → ∃ vk vb xs, SW w' B bs vk vb s xs) ∧ Below B w w' ∧ (∀ k c fr, k ≠ bs → w.heap[k]? = some (.cells c 25 fr) → w'.heap[k]? = some (.cells c 25 fr)) ∧ w.heap.size ≤ w'.heap.size
theorem RetKF.sw {B bs : Nat} {vk vb : Value} {s s' : Scm} {err err' : Int} {w w0 w' : World} {e : Ending} (h : RetKF B vk vb s err w e w') (hs : s = s') (he : err = err') (hb : Below B w0 w) (hm : Same 25 w0 w) (hsz : w0.heap.size ≤ w.heap.size) (hq : w.heap[bs]? = some (.cells #[vk, vb] 25 (0, 0))) (hl : B ≤ bs) : RetSW B bs s' err' w0 e w' := by
  subst hs; subst he
  obtain ⟨h1, h2, h3, h4, h5⟩ := h
  refine ⟨h1, fun h => ?_, hb.trans h3, fun k c fr _ hk => h4 _ _ _ (hm _ _ _ hk), by omega⟩
  obtain ⟨xs, hx⟩ := h2 h
  exact ⟨vk, vb, xs, h4 _ _ _ hq, hx, hl⟩
def fldE2 (d : Knd) (c : Chg) : Int := if c.what = 3 then addE d.fields c.fld c.val else if c.what = 7 then renE d.fields c.fld.name c.tow else if chas d.fields c.fld.name then 0 else 5
def fldF2 (d : Knd) (c : Chg) : List Fld := if c.what = 3 then addF d.fields c.fld else if c.what = 7 then renF d.fields c.fld.name c.tow else delF d.fields c.fld.name
def fieldsE (s : Scm) (c : Chg) : Int := match s.kinds[(kFind s.kinds c.name).toNat]? with | some d => if kFind s.kinds c.name < 0 then 5 else fldE2 d c | none => 5
def fieldsS (s : Scm) (c : Chg) : Scm := match s.kinds[(kFind s.kinds c.name).toNat]? with | some d => setF s (kFind s.kinds c.name).toNat d (fldF2 d c) | none => s
theorem kFind_cases (l : List Knd) (nm : ByteArray) : kFind l nm < 0 ∨ ∃ (i : Nat) (d : Knd), kFind l nm = i ∧ l[i]? = some d := by
  rcases Int.lt_or_le (kFind l nm) 0 with h | h
  · exact .inl h
  · obtain ⟨k, d, h1, h2, _⟩ := idxI_nonneg h
    exact .inr ⟨k, d, h1, h2⟩
set_option maxRecDepth 100000 in
set_option maxHeartbeats 8000000 in
theorem cfields_any (s : Scm) (c : Chg) (bs : Nat) (vk vb vo vf : Value) (xs : List Value) (B : Nat) (w : World) (hB : B ≤ w.heap.size) (hS : SW w B bs vk vb s xs) (hc : ChgR w vo vf c) (hr : ∀ d ∈ s.kinds, Rise d.fields ∧ d.fields.length ≤ 1000) :
    Calls Tryd.prog 79 #[.pointer (some ⟨bs, 0, none⟩), .agg (chgCells c vo vf)] w (RetSW B bs (fieldsS s c) (fieldsE s c) w) := by
  obtain ⟨Ak, ck, rfl, _, _⟩ := hS.o.n.form
  obtain ⟨Ab, cb, rfl, _, _⟩ := hS.o.b.form
  obtain ⟨Ao, co, rfl, _, _⟩ := hc.ko.form
  obtain ⟨Af, cf, rfl, _, _⟩ := hc.kf.form
  obtain ⟨what, name, kind, bond, fld, val, tow⟩ := c
  have hcc : ChgR w (.slice Ao kind.ofs.length co) (.slice Af kind.fields.length cf) ⟨what, name, kind, bond, fld, val, tow⟩ := hc
  clear hc
  show Calls Tryd.prog 79 #[.pointer (some ⟨bs, 0, none⟩), .agg #[.int .i64 what, .string name, .string kind.name, .slice Ao kind.ofs.length co, .slice Af kind.fields.length cf, .string bond.name, .string bond.src, .string bond.dst, .int .i64 bond.mn, .int .i64 bond.mx, .string fld.name, .int .i64 fld.ty, .bool fld.must, .bool fld.key, .int .i64 val.ty, .int .i64 val.n, .string val.s, .string tow]] w _
  obtain ⟨W0, hW0⟩ : ∃ W0, W0 = w.alloc (.cells #[.int .i64 what, .string name, .string kind.name, .slice Ao kind.ofs.length co, .slice Af kind.fields.length cf, .string bond.name, .string bond.src, .string bond.dst, .int .i64 bond.mn, .int .i64 bond.mx, .string fld.name, .int .i64 fld.ty, .bool fld.must, .bool fld.key, .int .i64 val.ty, .int .i64 val.n, .string val.s, .string tow] 42) := ⟨_, rfl⟩
  have hb0 : Below w.heap.size w W0 := by rw [hW0]; exact (Below.refl _ _).alloc (Nat.le_refl _) _
  have g0 : W0.heap[w.heap.size]? = some (.cells #[.int .i64 what, .string name, .string kind.name, .slice Ao kind.ofs.length co, .slice Af kind.fields.length cf, .string bond.name, .string bond.src, .string bond.dst, .int .i64 bond.mn, .int .i64 bond.mx, .string fld.name, .int .i64 fld.ty, .bool fld.must, .bool fld.key, .int .i64 val.ty, .int .i64 val.n, .string val.s, .string tow] 42 (0, 0)) := by rw [hW0]; exact heap_alloc_new _ _
  have hq0 : W0.heap[bs]? = some (.cells #[.slice Ak s.kinds.length ck, .slice Ab s.bonds.length cb] 25 (0, 0)) := (hb0.block _ (Array.getElem?_eq_some_iff.1 hS.q).1).trans hS.q
  have hW0' := hW0.symm
  have x0 := block_cell hq0 0
  have x1 := block_cell hq0 1
  have y0 := block_cell g0 0
  have y1 := block_cell g0 1
  have HS0 := Lib.hid (hS.o.below hb0)
  have HBS := Lib.hid hS.l
  have HC := Lib.hid hcc
  have HR := Lib.hid hr
  have HFE : Hid (fieldsE s ⟨what, name, kind, bond, fld, val, tow⟩ = match s.kinds[(kFind s.kinds name).toNat]? with | some d => if kFind s.kinds name < 0 then 5 else fldE2 d ⟨what, name, kind, bond, fld, val, tow⟩ | none => 5) := rfl
  have HFS : Hid (fieldsS s ⟨what, name, kind, bond, fld, val, tow⟩ = match s.kinds[(kFind s.kinds name).toNat]? with | some d => setF s (kFind s.kinds name).toNat d (fldF2 d ⟨what, name, kind, bond, fld, val, tow⟩) | none => s) := rfl
  have hkc := kFind_cases s.kinds name
  have hw0 := hb0.size
  have HQ0 := Lib.hid hq0
  have HG0 := Lib.hid g0
  clear hS hcc hr hW0 hq0 g0
  go_enter Tryd.func79, Tryd.ntmps79
  go_wp2_with fail
  refine wp_mid_k 6 _ rfl rfl (by kernel_rfl) (by kernel_rfl) ?_
  simp only [List.take_succ_cons, List.take_zero, List.drop_succ_cons, List.drop_zero]
  repeat (go_big_quiet_step (fail))
  refine wpQuiet_nil ?_
  intro _ hw'
  obtain ⟨nq, hw''⟩ := hw'
  subst hw''
  intro K hK
  have hkf := kFind_any s.kinds name (.slice Ak s.kinds.length ck) (W0.drewN nq) (HS0.out.r.1.below (below_drewN (Below.refl _ _) nq))
  generalize kFind s.kinds name = z at *
  go_wp2_with fail
  refine hkf.mono ?_
  clear hkf
  rintro e w1 ⟨rfl, hb1⟩
  have hb01 := (below_drewN (Below.refl W0.heap.size W0) nq).trans hb1
  refine hK _ _ ?_
  repeat (go_big_quiet_step (fail))
  refine wpQuiet_nil ?_
  intro _ hw'
  obtain ⟨nq2, hw''⟩ := hw'
  subst hw''
  clear hK
  have hbW := below_drewN hb01 nq2
  generalize w1.drewN nq2 = W1 at *
  have x0 := cell_below hbW x0
  have x1 := cell_below hbW x1
  have hg1 := (hbW.block _ (Array.getElem?_eq_some_iff.1 HG0.out).1).trans HG0.out
  have HQ1 := Lib.hid ((hbW.block _ (Array.getElem?_eq_some_iff.1 HQ0.out).1).trans HQ0.out)
  have HS1 := Lib.hid (HS0.out.below hbW)
  have hbw := hb0.trans (hbW.mono hw0)
  have HB1 := Lib.hid (hbw.mono hB)
  have HM1 : Hid (Same 25 w W1) := Same.below hbw
  have hs1 := hbw.size
  have u0 := block_cell hg1 0
  have u10 := block_cell hg1 10
  have u11 := block_cell hg1 11
  have u12 := block_cell hg1 12
  have u13 := block_cell hg1 13
  have u14 := block_cell hg1 14
  have u15 := block_cell hg1 15
  have u16 := block_cell hg1 16
  have u17 := block_cell hg1 17
  clear hb1 hb01 hbW hbw hb0 y0 y1 hg1 HQ0 HG0
  rcases hkc with hz | ⟨i, d, rfl, hd⟩
  · have HF : Hid (fieldsE s ⟨what, name, kind, bond, fld, val, tow⟩ = 5) := by
      unfold Hid; rw [HFE.out]; split
      · rw [if_pos hz]
      · rfl
    clear HFE HFS
    go_wp2_with fail
    go_ret
    exact ⟨by rw [HF.out]; rfl, (fun h => by rw [HF.out] at h; omega), HB1.out, (fun k cc fr _ hk => HM1.out _ _ _ hk), hs1⟩
  · have HE2 : Hid (fldE2 d ⟨what, name, kind, bond, fld, val, tow⟩ = fieldsE s ⟨what, name, kind, bond, fld, val, tow⟩) := by
      unfold Hid; rw [HFE.out, Int.toNat_natCast, hd]; simp only; rw [if_neg (by omega)]
    have HS2 : Hid (setF s i d (fldF2 d ⟨what, name, kind, bond, fld, val, tow⟩) = fieldsS s ⟨what, name, kind, bond, fld, val, tow⟩) := by
      unfold Hid; rw [HFS.out, Int.toNat_natCast, hd]
    have HD := Lib.hid hd
    obtain ⟨hri, hle⟩ := HR.out d (List.mem_of_getElem? hd)
    have HRI := Lib.hid hri
    have hil := (List.getElem?_eq_some_iff.1 hd).1
    obtain ⟨gb, o, c2, hv, hgb1, hgb2⟩ := HS1.out.n.addr (by omega)
    injection hv with hv1 hv2 hv3
    subst hv1; subst hv3
    have hil' : (i : Int) < (s.kinds.length : Int) := by omega
    have hi0 : (0 : Int) ≤ (i : Int) := by omega
    clear hd hri HFE HFS HR
    by_cases h3 : what = 3
    · subst h3
      have hcall := cadd_any s i d fld val gb o ck (.slice Ab s.bonds.length cb) xs B W1 (by omega) HS1.out HD.out (rise_chain HRI.out) hle HC.out.f HC.out.v
      go_wp2_with fail
      refine hcall.mono ?_
      clear hcall
      intro e w5 h5
      have h6 := h5.sw (B := B) (bs := bs) (w0 := w) HS2.out HE2.out HB1.out HM1.out hs1 HQ1.out HBS.out
      obtain ⟨rfl, hrest⟩ := h6
      have HREST := Lib.hid hrest
      clear h5 hrest
      generalize hee : fieldsE s ⟨3, name, kind, bond, fld, val, tow⟩ = ee at *
      go_wp2_with fail
      go_ret
      exact ⟨rfl, HREST.out⟩
    have b3 : (what == 3) = false := beq_eq_false_iff_ne.2 h3
    by_cases h7 : what = 7
    · subst h7
      have hcall := cren_any s i d fld.name tow gb o ck (.slice Ab s.bonds.length cb) xs B W1 (by omega) HS1.out HD.out HRI.out hle HC.out.t
      go_wp2_with fail
      refine hcall.mono ?_
      clear hcall
      intro e w5 h5
      have h6 := h5.sw (B := B) (bs := bs) (w0 := w) HS2.out HE2.out HB1.out HM1.out hs1 HQ1.out HBS.out
      obtain ⟨rfl, hrest⟩ := h6
      have HREST := Lib.hid hrest
      clear h5 hrest
      generalize hee : fieldsE s ⟨7, name, kind, bond, fld, val, tow⟩ = ee at *
      go_wp2_with fail
      go_ret
      exact ⟨rfl, HREST.out⟩
    have b7 : (what == 7) = false := beq_eq_false_iff_ne.2 h7
    have HE3 : Hid (fieldsE s ⟨what, name, kind, bond, fld, val, tow⟩ = if chas d.fields fld.name then 0 else 5) := by
      unfold Hid; rw [← HE2.out]; unfold fldE2; simp only [h3, h7, if_false]
    have HS3 : Hid (setF s i d (delF d.fields fld.name) = fieldsS s ⟨what, name, kind, bond, fld, val, tow⟩) := by
      unfold Hid; rw [← HS2.out]; unfold fldF2; simp only [h3, h7, if_false]
    obtain ⟨u, x, k0, k1, k2, _, _, ou, hfo, ox⟩ := HS1.out.o.get HD.out
    have c0 : W1.cell? ⟨gb, o + i * 3, none⟩ = some (.string d.name) := HS1.out.n.cell rfl k0
    have c1 : W1.cell? ⟨gb, o + i * 3 + 1, none⟩ = some u := HS1.out.n.cell (j := i * 3 + 1) rfl k1
    have c2 : W1.cell? ⟨gb, o + i * 3 + 2, none⟩ = some x := HS1.out.n.cell (j := i * 3 + 2) rfl k2
    obtain ⟨Au, cu, rfl, _, _⟩ := ou.form
    obtain ⟨Ax, cx, rfl, _, _⟩ := ox.form
    have HK2 := Lib.hid k2
    have HSL := Lib.hid (show Sl fldL W1 (.slice Ax d.fields.length cx) d.fields from ox.flds hfo)
    have HCS : Hid (chas d.fields fld.name = true → ∃ f, d.fields[cpos d.fields fld.name]? = some f) := chas_some
    have HDF : Hid (delF d.fields fld.name = d.fields.take (cpos d.fields fld.name) ++ d.fields.drop (cpos d.fields fld.name + 1)) := rfl
    clear k0 k1 k2 ou ox HE2 HS2
    go_wp2_with fail
    refine wp_mid_k 6 _ rfl rfl (by kernel_rfl) (by kernel_rfl) ?_
    simp only [List.take_succ_cons, List.take_zero, List.drop_succ_cons, List.drop_zero]
    repeat (go_big_quiet_step (fail))
    refine wpQuiet_nil ?_
    intro _ hw'
    obtain ⟨nq, hw''⟩ := hw'
    subst hw''
    intro K hK
    have hcf := cfield_any d.name d.fields fld.name Au d.ofs.length cu (.slice Ax d.fields.length cx) (W1.drewN nq) (HSL.out.below (below_drewN (Below.refl _ _) nq)) (rise_chain HRI.out) hle
    generalize chas d.fields fld.name = q at *
    generalize cpos d.fields fld.name = p at *
    go_wp2_with fail
    refine hcf.mono ?_
    clear hcf
    rintro e w2 ⟨rfl, hb2⟩
    have hb12 := (below_drewN (Below.refl W1.heap.size W1) nq).trans hb2
    refine hK _ _ ?_
    repeat (go_big_quiet_step (fail))
    refine wpQuiet_nil ?_
    intro _ hw'
    obtain ⟨nq2, hw''⟩ := hw'
    subst hw''
    clear hK
    have hbX := below_drewN hb12 nq2
    generalize w2.drewN nq2 = W2 at *
    have c2 := cell_below hbX c2
    have HSX := Lib.hid (HS1.out.below hbX)
    have HB2 : Hid (Below B w W2) := HB1.out.trans (hbX.mono (by omega))
    have HM2 : Hid (Same 25 w W2) := HM1.out.trans (Same.below hbX)
    have HQ2 := Lib.hid ((hbX.block _ (Array.getElem?_eq_some_iff.1 HQ1.out).1).trans HQ1.out)
    have hs2 : w.heap.size ≤ W2.heap.size := by have := hbX.size; omega
    clear hb2 hb12 hbX c0 c1 x0 x1 u0 u10 u11 u12 u13 u14 u15 u16 u17 HSL
    cases q with
    | false =>
      have HF : Hid (fieldsE s ⟨what, name, kind, bond, fld, val, tow⟩ = 5) := by unfold Hid; rw [HE3.out]; rfl
      clear HE3
      go_wp2_with fail
      go_ret
      exact ⟨by rw [HF.out]; rfl, (fun h => by rw [HF.out] at h; omega), HB2.out, (fun k cc fr _ hk => HM2.out _ _ _ hk), hs2⟩
    | true =>
      have HF : Hid (fieldsE s ⟨what, name, kind, bond, fld, val, tow⟩ = 0) := by unfold Hid; rw [HE3.out]; rfl
      obtain ⟨f, hf⟩ := HCS.out rfl
      have hpl := (List.getElem?_eq_some_iff.1 hf).1
      obtain ⟨m, hm⟩ : ∃ m, d.fields.length = m + 1 := ⟨d.fields.length - 1, by omega⟩
      obtain ⟨_, _, _, _, k4, _, _, _, hfo4, ox4⟩ := HSX.out.o.get HD.out
      obtain rfl := Option.some.inj (HK2.out.symm.trans k4)
      rw [hm] at ox4
      have hdel := del1_flds W2 B (.slice Ax (m + 1) cx) m (d.fields.flatMap Fld.enc) ox4 p (by omega) (oneCell_flat Fld.enc_one d.fields) (by omega)
      rw [flat_take Fld.enc_len d.fields p (by omega), flat_drop Fld.enc_len d.fields (p + 1) (by omega), ← List.flatMap_append, ← HDF.out] at hdel
      have HDL : Hid ((delF d.fields fld.name).length = m) := by unfold Hid; rw [HDF.out]; simp; omega
      have HDO : Hid (∀ y ∈ delF d.fields fld.name, y.ok) := fun y hy => by
        rw [HDF.out] at hy
        rcases List.mem_append.1 hy with h | h
        · exact hfo4 y (List.mem_of_mem_take h)
        · exact hfo4 y (List.mem_of_mem_drop h)
      have HOX := Lib.hid ox4
      have hpm : (p : Int) < (m : Int) + 1 := by omega
      have hm9 : (m : Int) ≤ 1000 := by omega
      have HOL : Hid ((Value.slice Ax d.fields.length cx).ownBlock = (Value.slice Ax (m + 1) cx).ownBlock) := own_len ..
      rw [hm] at c2
      clear k4 ox4 hfo4 HE3 HCS hf hpl hm
      go_wp2_with fail
      refine hdel.mono ?_
      clear hdel
      rintro e w5 ⟨u5, rfl, ho5, hg5, hu5⟩
      have hfin := field_put HSX.out HD.out HK2.out (by rw [HDL.out]; exact ho5) (by rw [HOL.out]; exact hg5) (.inl (by rw [HOL.out]; exact hu5)) HDO.out
      have hfr := hfin.2.2.1
      have hcl := hfin.2.2.2.1
      obtain ⟨A5, c5, rfl, _, _⟩ := ho5.form
      have hB5 : Below B w w5 := HB2.out.grown hg5 (by omega) (fun k e => (HOX.out.lt k e).1)
      have hs5 := hg5.size
      have HFIN := Lib.hid hfin
      clear hfin ho5 hg5 hu5
      go_wp2_with fail
      go_ret
      exact ⟨by rw [HF.out]; rfl, (fun _ => ⟨_, _, _, HFIN.out.2.1 25 (by decide) (by decide) _ _ _ HQ2.out, by rw [← HS3.out]; exact HFIN.out.1, HBS.out⟩), hB5.setCell (p := ⟨gb, o + i * 3 + 2, none⟩) HFIN.out.2.2.2.2 _,
        (fun k cc fr _ hk => HFIN.out.2.1 25 (by decide) (by decide) _ _ _ (HM2.out _ _ _ hk)), by simp [World.setCell]; omega⟩
end Go.Proofs.YtldmofffogjlkaaDoor

/- Contract: change.drop. -/
namespace Go.Proofs.YtldmofffogjlkaaDoor
open Go Go.RowKit



def kndW (w : World) (d : Knd) (u : Value) : Prop := ∃ a n c b m e, u = .agg #[.string d.name, .slice a n c, .slice b m e] ∧ Sl strL w (.slice a n c) d.ofs
set_option maxHeartbeats 400000 in
theorem idx_kndw (g : Nat) (caps : Array Value) (eg : ∀ args w, (callFunc g args).run Tryd.prog w = .ok (.enter g args) w) (p : Knd → Bool) (l : List (Knd)) (v : Value) (w : World) (hv : Sl kndL w v l)
    (hp : PredB Tryd.prog g caps kndW p w) :
    Calls Tryd.prog 84 #[v, .func (.func g) #[] caps] w fun e w' => e = .returned (.int .i64 (idxI p l)) ∧ Below w.heap.size w w' := by
  obtain ⟨A, c, rfl, hlc, hcm⟩ := hv.form
  unfold maxLen at hcm
  go_enter Tryd.func84, Tryd.ntmps84
  go_wp2_with fail
  go_loopw [8] (fun i wr => ∃ k : Nat, k ≤ l.length ∧ i = .int .i64 k ∧ Below w.heap.size w wr ∧ Hid (∀ j x, j < k → l[j]? = some x → p x = false)) (fun i _ => l.length - (intOf i).toNat)
  case atStart => exact ⟨0, Nat.zero_le _, rfl, Below.refl _ _, fun j x hj => absurd hj (Nat.not_lt_zero _)⟩
  case round =>
    obtain ⟨k, hk, rfl, hb, HA⟩ := hrel
    by_cases hlt : k < l.length
    · obtain ⟨d, hd⟩ : ∃ d, l[k]? = some d := ⟨_, List.getElem?_eq_getElem hlt⟩
      obtain ⟨b, o, rfl, u, x, h1, h2, h3, c0, c1, c2⟩ := knd_at (hv.below hb) hd
      obtain ⟨A1, q1, rfl, _, _⟩ := h2.form
      obtain ⟨A2, q2, rfl, _, _⟩ := h3.form
      have hcall := hp d (.agg #[.string d.name, .slice A1 d.ofs.length q1, .slice A2 d.fields.length q2]) wr hb ⟨A1, _, q1, A2, _, q2, rfl, h2⟩
      clear h2 h3
      have HD : Hid (l[k]? = some d) := hd
      clear hd hp hv
      cases hq : p d with
      | true =>
        rw [hq] at hcall
        have HQ : Hid (p d = true) := hq
        clear hq
        go_wp2_with (go_at_fn g; refine hcall.mono ?_; rintro e w' ⟨rfl, hb2⟩)
        go_ret
        exact ⟨ret_int (idxI_hit HA.out HD.out HQ.out).symm, hb.trans (hb2.mono hb.size)⟩
      | false =>
        rw [hq] at hcall
        have HQ : Hid (p d = false) := hq
        clear hq
        go_wp2_with (go_at_fn g; refine hcall.mono ?_; rintro e w' ⟨rfl, hb2⟩)
        go_roundw
        case rel => exact ⟨k + 1, by omega, by go_num, hb.trans (hb2.mono hb.size), miss_step HA.out HD.out HQ.out⟩
        case measure => simp [intOf]; omega
    · have hkl : k = l.length := by omega
      subst hkl
      clear hp hv
      go_wp2_with fail
      go_ret
      exact ⟨ret_int (idxI_miss HA.out).symm, hb⟩
theorem cont_kndw (g : Nat) (caps : Array Value) (eg : ∀ args w, (callFunc g args).run Tryd.prog w = .ok (.enter g args) w) (p : Knd → Bool) (l : List (Knd)) (v : Value) (w : World) (hv : Sl kndL w v l)
    (hp : PredB Tryd.prog g caps kndW p w) :
    Calls Tryd.prog 112 #[v, .func (.func g) #[] caps] w fun e w' => e = .returned (.bool (l.any p)) ∧ Below w.heap.size w w' := by
  have h1 := idx_kndw g caps eg p l v w hv hp
  have h2 := idxI_any p l
  have H2 := Lib.hid h2
  clear h2 hv hp eg
  go_enter Tryd.func112, Tryd.ntmps112
  go_wp2_with (go_at_call 84; refine h1.mono ?_; rintro e w' ⟨rfl, hb⟩)
  go_ret
  exact ⟨ret_bool H2.out, hb⟩
theorem cont_bnds (g : Nat) (caps : Array Value) (eg : ∀ args w, (callFunc g args).run Tryd.prog w = .ok (.enter g args) w) (p : Bnd → Bool) (l : List (Bnd)) (v : Value) (w : World) (hv : Sl bndL w v l)
    (hp : PredB Tryd.prog g caps bndV p w) :
    Calls Tryd.prog 50 #[v, .func (.func g) #[] caps] w fun e w' => e = .returned (.bool (l.any p)) ∧ Below w.heap.size w w' := by
  have h1 := idx_bnds g caps eg p l v w hv hp
  have h2 := idxI_any p l
  have H2 := Lib.hid h2
  clear h2 hv hp eg
  go_enter Tryd.func50, Tryd.ntmps50
  go_wp2_with (go_at_call 94; refine h1.mono ?_; rintro e w' ⟨rfl, hb⟩)
  go_ret
  exact ⟨ret_bool H2.out, hb⟩
theorem drop1_any (d : Knd) (name : ByteArray) (u : Value) (bk : Nat) (w : World) (hu : kndW w d u) (hc : w.cell? ⟨bk, 0, none⟩ = some (.string name)) :
    Calls Tryd.prog 113 #[u, .pointer (some ⟨bk, 0, none⟩)] w fun e w' => e = .returned (.bool (d.ofs.any fun y => decide (name = y))) ∧ Below w.heap.size w w' := by
  obtain ⟨a, n, c, b, m, e, rfl, hs⟩ := hu
  have hb0 : Below w.heap.size w (w.alloc (.cells #[.string d.name, .slice a n c, .slice b m e] 34)) := (Below.refl _ _).alloc (Nat.le_refl _) _
  have hcall := containsStr_any d.ofs name _ _ (hs.below hb0)
  have hc2 := cell_below hb0 hc
  generalize (d.ofs.any fun y => decide (name = y)) = q at *
  clear hs
  go_enter Tryd.func113, Tryd.ntmps113
  go_wp2_with fail
  refine hcall.mono ?_
  rintro e w' ⟨rfl, rfl⟩
  go_wp2_with fail
  go_ret
  exact ⟨rfl, hb0⟩
theorem drop2_any (d : Bnd) (name : ByteArray) (u : Value) (bk : Nat) (w : World) (hu : bndV w d u) (hc : w.cell? ⟨bk, 0, none⟩ = some (.string name)) :
    Calls Tryd.prog 115 #[u, .pointer (some ⟨bk, 0, none⟩)] w fun e w' => e = .returned (.bool (decide (d.src = name) || decide (d.dst = name))) ∧ Below w.heap.size w w' := by
  obtain rfl : u = _ := hu
  have hb0 : Below w.heap.size w (w.alloc (.cells #[.string d.name, .string d.src, .string d.dst, .int .i64 d.mn, .int .i64 d.mx] 36)) := (Below.refl _ _).alloc (Nat.le_refl _) _
  have hc2 := cell_below hb0 hc
  have h1 := bytes_beq d.src name
  have h2 := bytes_beq d.dst name
  have HE : Hid ((decide (d.src = name) || decide (d.dst = name)) = ((d.src.toList == name.toList) || (d.dst.toList == name.toList))) := by unfold Hid; rw [h1, h2]
  clear h1 h2
  cases e1 : (d.src.toList == name.toList) <;> cases e2 : (d.dst.toList == name.toList)
  all_goals
    rw [HE.out, e1, e2]
    clear HE
    go_enter Tryd.func115, Tryd.ntmps115
    go_wp2_with fail
    go_ret
    exact ⟨rfl, hb0⟩
def usedB (s : Scm) (nm : ByteArray) : Bool := (s.kinds.any fun k => k.ofs.any fun y => decide (nm = y)) || (s.bonds.any fun b => decide (b.src = nm) || decide (b.dst = nm))
def dropE (s : Scm) (nm : ByteArray) : Int := if kFind s.kinds nm < 0 then 5 else if usedB s nm then 6 else 0
def dropS (s : Scm) (nm : ByteArray) : Scm := ⟨s.kinds.take (kFind s.kinds nm).toNat ++ s.kinds.drop ((kFind s.kinds nm).toNat + 1), s.bonds⟩
theorem OwnKnds.split {w : World} {B : Nat} : ∀ {l : List Knd} {xs : List Value} (i : Nat), i ≤ l.length → OwnKnds w B l xs → OwnKnds w B (l.take i) (xs.take (i * 3)) ∧ OwnKnds w B (l.drop i) (xs.drop (i * 3))
  | l, xs, 0, _, h => by simp only [List.take_zero, Nat.zero_mul, List.drop_zero]; exact ⟨rfl, h⟩
  | [], xs, i + 1, hi, h => by simp at hi
  | d :: l, xs, i + 1, hi, h => by
    obtain ⟨u, x, ys, rfl, h1, h2, h3, h4, h5, h6⟩ := h
    obtain ⟨k1, k2⟩ := h6.split i (by simpa using hi)
    have e : (i + 1) * 3 = i * 3 + 1 + 1 + 1 := by omega
    rw [e]
    exact ⟨⟨u, x, ys.take (i * 3), rfl, h1, h2, h3, h4, h5, k1⟩, k2⟩
theorem FDist.drop1 {xs : List Value} {n i : Nat} (h : FDist xs) (hl : xs.length = n * 3) (hi : i < n) : FDist (xs.take (i * 3) ++ xs.drop ((i + 1) * 3)) := by
  have key : ∀ j x, (xs.take (i * 3) ++ xs.drop ((i + 1) * 3))[j * 3 + 2]? = some x → ∃ j', xs[j' * 3 + 2]? = some x ∧ j' = if j < i then j else j + 1 := fun j x hx => by
    have htl : (xs.take (i * 3)).length = i * 3 := by rw [List.length_take]; omega
    by_cases hj : j < i
    · rw [List.getElem?_append_left (by omega), List.getElem?_take, if_pos (by omega)] at hx
      exact ⟨j, hx, by rw [if_pos hj]⟩
    · rw [List.getElem?_append_right (by omega), htl, List.getElem?_drop, show (i + 1) * 3 + (j * 3 + 2 - i * 3) = (j + 1) * 3 + 2 by omega] at hx
      exact ⟨j + 1, hx, by rw [if_neg hj]⟩
  intro a b x y k hab hx hy hk
  obtain ⟨a', ha, ea⟩ := key a x hx
  obtain ⟨b', hb, eb⟩ := key b y hy
  refine h a' b' x y k ?_ ha hb hk
  rw [ea, eb]
  split <;> split <;> omega
theorem OwnS.drop1 {w : World} {B : Nat} {vk vk' vb : Value} {s : Scm} {xs : List Value} {i m : Nat} (h : OwnS w B vk vb s xs) (hm : s.kinds.length = m + 1) (hi : i ≤ m) {w' : World} (hn : Own w' B 34 3 vk' m (xs.take (i * 3) ++ xs.drop ((i + 1) * 3)))
    (h1 : Same 9 w w') (h2 : Same 38 w w') (h3 : Same 36 w w') : OwnS w' B vk' vb ⟨s.kinds.take i ++ s.kinds.drop (i + 1), s.bonds⟩ (xs.take (i * 3) ++ xs.drop ((i + 1) * 3)) := by
  refine ⟨?_, (((h.o.split i (by omega)).1.append (h.o.split (i + 1) (by omega)).2).same h1 h2), h.b.same h3, h.k, h.d.drop1 h.n.1 (by omega)⟩
  show Own w' B 34 3 vk' (s.kinds.take i ++ s.kinds.drop (i + 1)).length _
  have : (s.kinds.take i ++ s.kinds.drop (i + 1)).length = m := by simp; omega
  rw [this]
  exact hn
end Go.Proofs.YtldmofffogjlkaaDoor

/- Contract: change.drop. -/
namespace Go.Proofs.YtldmofffogjlkaaDoor
open Go Go.RowKit


set_option maxRecDepth 100000 in
set_option maxHeartbeats 8000000 in
theorem cdrop_any (s : Scm) (nm : ByteArray) (bs : Nat) (vk vb : Value) (xs : List Value) (B : Nat) (w : World) (hB : B ≤ w.heap.size) (hS : SW w B bs vk vb s xs) (hkl : s.kinds.length ≤ 1000) :
    Calls Tryd.prog 78 #[.pointer (some ⟨bs, 0, none⟩), .string nm] w (RetSW B bs (dropS s nm) (dropE s nm) w) := by
  obtain ⟨Ak, ck, rfl, _, _⟩ := hS.o.n.form
  obtain ⟨Ab, cb, rfl, _, _⟩ := hS.o.b.form
  have hb0 : Below w.heap.size w (w.alloc (.cells #[.string nm] 9)) := (Below.refl _ _).alloc (Nat.le_refl _) _
  have y0 : (w.alloc (.cells #[.string nm] 9)).cell? ⟨w.heap.size, 0, none⟩ = some (.string nm) := by rw [World.cell?_alloc_at _ _ _ _ rfl]; rfl
  have hq0 : (w.alloc (.cells #[.string nm] 9)).heap[bs]? = some (.cells #[.slice Ak s.kinds.length ck, .slice Ab s.bonds.length cb] 25 (0, 0)) := (hb0.block _ (Array.getElem?_eq_some_iff.1 hS.q).1).trans hS.q
  have x0 := block_cell hq0 0
  have x1 := block_cell hq0 1
  have HS0 := Lib.hid (hS.o.below hb0)
  have HBS := Lib.hid hS.l
  have hbsl : bs < w.heap.size := (Array.getElem?_eq_some_iff.1 hS.q).1
  have HDE : Hid (dropE s nm = if kFind s.kinds nm < 0 then 5 else if usedB s nm then 6 else 0) := rfl
  have HDS : Hid (dropS s nm = ⟨s.kinds.take (kFind s.kinds nm).toNat ++ s.kinds.drop ((kFind s.kinds nm).toNat + 1), s.bonds⟩) := rfl
  have HUB : Hid (usedB s nm = ((s.kinds.any fun k => k.ofs.any fun y => decide (nm = y)) || (s.bonds.any fun b => decide (b.src = nm) || decide (b.dst = nm)))) := rfl
  have hkc := kFind_cases s.kinds nm
  have HQ0 := Lib.hid hq0
  have hw0 := hb0.size
  clear hS hq0
  go_enter Tryd.func78, Tryd.ntmps78
  go_wp2_with fail
  generalize w.alloc (.cells #[.string nm] 9) = W0 at *
  refine wp_mid_k 5 _ rfl rfl (by kernel_rfl) (by kernel_rfl) ?_
  simp only [List.take_succ_cons, List.take_zero, List.drop_succ_cons, List.drop_zero]
  repeat (go_big_quiet_step (fail))
  refine wpQuiet_nil ?_
  intro _ hw'
  obtain ⟨nq, hw''⟩ := hw'
  subst hw''
  intro K hK
  have hkf := kFind_any s.kinds nm (.slice Ak s.kinds.length ck) (W0.drewN nq) (HS0.out.r.1.below (below_drewN (Below.refl _ _) nq))
  generalize kFind s.kinds nm = z at *
  go_wp2_with fail
  refine hkf.mono ?_
  clear hkf
  rintro e w1 ⟨rfl, hb1⟩
  have hb01 := (below_drewN (Below.refl W0.heap.size W0) nq).trans hb1
  refine hK _ _ ?_
  repeat (go_big_quiet_step (fail))
  refine wpQuiet_nil ?_
  intro _ hw'
  obtain ⟨nq2, hw''⟩ := hw'
  subst hw''
  clear hK
  have hbW := below_drewN hb01 nq2
  generalize w1.drewN nq2 = W1 at *
  have x0 := cell_below hbW x0
  have x1 := cell_below hbW x1
  have y0 := cell_below hbW y0
  have HQ1 := Lib.hid ((hbW.block _ (Array.getElem?_eq_some_iff.1 HQ0.out).1).trans HQ0.out)
  have HS1 := Lib.hid (HS0.out.below hbW)
  have hbw := hb0.trans (hbW.mono hw0)
  have hs1 := hbw.size
  have hck := cont_kndw 113 #[.pointer (some ⟨w.heap.size, 0, none⟩)] (by intro args w; kernel_rfl) (fun k => k.ofs.any fun y => decide (nm = y)) s.kinds _ W1 HS1.out.r.1 (fun x u wx hb hu => drop1_any x nm u w.heap.size wx hu (cell_below hb y0))
  clear hb1 hb01 hbW HQ0
  generalize (s.kinds.any fun k => k.ofs.any fun y => decide (nm = y)) = a1 at *
  generalize ha2 : (s.bonds.any fun b => decide (b.src = nm) || decide (b.dst = nm)) = a2 at *
  go_wp2_with fail
  refine hck.mono ?_
  clear hck
  rintro e w2 ⟨rfl, hb2⟩
  have x0 := cell_below hb2 x0
  have x1 := cell_below hb2 x1
  have y0 := cell_below hb2 y0
  have hbw2 := hbw.trans (hb2.mono hs1)
  have hs2 := hbw2.size
  have HQ2 := Lib.hid ((hb2.block _ (Array.getElem?_eq_some_iff.1 HQ1.out).1).trans HQ1.out)
  have HS2 := Lib.hid (HS1.out.below hb2)
  have hcb := cont_bnds 115 #[.pointer (some ⟨w.heap.size, 0, none⟩)] (by intro args w; kernel_rfl) (fun b => decide (b.src = nm) || decide (b.dst = nm)) s.bonds _ w2 HS2.out.r.2 (fun x u wx hb hu => drop2_any x nm u w.heap.size wx hu (cell_below hb y0))
  rw [ha2] at hcb
  clear hb2 HQ1 HS1 hbw ha2
  cases a1 with
  | true =>
    have HU : Hid (usedB s nm = true) := by unfold Hid; rw [HUB.out]; rfl
    clear hcb HUB
    rcases hkc with hz | ⟨i, d, rfl, hd⟩
    · have HF : Hid (dropE s nm = 5) := by unfold Hid; rw [HDE.out, if_pos hz]
      clear HDE HDS
      go_wp2_with fail
      go_ret
      exact ⟨by rw [HF.out]; rfl, (fun h => by rw [HF.out] at h; omega), hbw2.mono hB, (fun k cc fr _ hk => Same.below hbw2 _ _ _ hk), hs2⟩
    · have HF : Hid (dropE s nm = 6) := by unfold Hid; rw [HDE.out, if_neg (by omega), if_pos HU.out]
      have hi0 : (0 : Int) ≤ (i : Int) := by omega
      clear HDE HDS
      go_wp2_with fail
      go_ret
      exact ⟨by rw [HF.out]; rfl, (fun h => by rw [HF.out] at h; omega), hbw2.mono hB, (fun k cc fr _ hk => Same.below hbw2 _ _ _ hk), hs2⟩
  | false =>
    go_wp2_with fail
    refine hcb.mono ?_
    clear hcb
    rintro e w3 ⟨rfl, hb3⟩
    have x0 := cell_below hb3 x0
    have x1 := cell_below hb3 x1
    have hbw3 := hbw2.trans (hb3.mono hs2)
    have hs3 := hbw3.size
    have HQ3 := Lib.hid ((hb3.block _ (Array.getElem?_eq_some_iff.1 HQ2.out).1).trans HQ2.out)
    have HS3 := Lib.hid (HS2.out.below hb3)
    clear hb3 HQ2 HS2 hbw2
    cases a2 with
    | true =>
      have HU : Hid (usedB s nm = true) := by unfold Hid; rw [HUB.out]; rfl
      clear HUB
      rcases hkc with hz | ⟨i, d, rfl, hd⟩
      · have HF : Hid (dropE s nm = 5) := by unfold Hid; rw [HDE.out, if_pos hz]
        clear HDE HDS
        go_wp2_with fail
        go_ret
        exact ⟨by rw [HF.out]; rfl, (fun h => by rw [HF.out] at h; omega), hbw3.mono hB, (fun k cc fr _ hk => Same.below hbw3 _ _ _ hk), hs3⟩
      · have HF : Hid (dropE s nm = 6) := by unfold Hid; rw [HDE.out, if_neg (by omega), if_pos HU.out]
        have hi0 : (0 : Int) ≤ (i : Int) := by omega
        clear HDE HDS
        go_wp2_with fail
        go_ret
        exact ⟨by rw [HF.out]; rfl, (fun h => by rw [HF.out] at h; omega), hbw3.mono hB, (fun k cc fr _ hk => Same.below hbw3 _ _ _ hk), hs3⟩
    | false =>
      have HU : Hid (usedB s nm = false) := by unfold Hid; rw [HUB.out]; rfl
      clear HUB
      rcases hkc with hz | ⟨i, d, rfl, hd⟩
      · have HF : Hid (dropE s nm = 5) := by unfold Hid; rw [HDE.out, if_pos hz]
        clear HDE HDS
        go_wp2_with fail
        go_ret
        exact ⟨by rw [HF.out]; rfl, (fun h => by rw [HF.out] at h; omega), hbw3.mono hB, (fun k cc fr _ hk => Same.below hbw3 _ _ _ hk), hs3⟩
      · have HF : Hid (dropE s nm = 0) := by unfold Hid; rw [HDE.out, if_neg (by omega), HU.out]; rfl
        have HS' : Hid (dropS s nm = ⟨s.kinds.take i ++ s.kinds.drop (i + 1), s.bonds⟩) := by unfold Hid; rw [HDS.out, Int.toNat_natCast]
        have hi0 : (0 : Int) ≤ (i : Int) := by omega
        have hil := (List.getElem?_eq_some_iff.1 hd).1
        obtain ⟨m, hm⟩ : ∃ m, s.kinds.length = m + 1 := ⟨s.kinds.length - 1, by omega⟩
        have hn3 := HS3.out.n
        rw [hm] at hn3
        have hdel := del1_knds w3 B _ m xs hn3 i (by omega) (HS3.out.o.row.oneCell one_knd) (by omega)
        have HN3 := Lib.hid hn3
        have HM := Lib.hid hm
        have hi9 : (i : Int) ≤ 1000 := by omega
        have him : i ≤ m := by omega
        have HQ4 := HQ3.out
        rw [hm] at x0 HQ4
        have HQ5 := Lib.hid HQ4
        clear HDE HDS hd hil hn3 hm HQ4
        go_wp2_with fail
        refine hdel.mono ?_
        clear hdel
        rintro e w5 ⟨u5, rfl, ho5, hg5, hu5⟩
        have hSk : ∀ T, 34 ≠ T → Same T w3 w5 := fun T hT => Same.grown HN3.out hT hg5
        have hq5 := hSk 25 (by decide) _ _ _ HQ5.out
        have f0 := block_free hq5 0
        have c0 := block_cell hq5 0
        obtain ⟨A5, c5, rfl, _, _⟩ := ho5.form
        have hset : ∀ T, 25 ≠ T → Same T w5 (w5.setCell ⟨bs, 0, none⟩ (.slice A5 m c5)) := fun T hT => Same.setCell (p := ⟨bs, 0, none⟩) hq5 hT _
        have HQ6 := Lib.hid (setCell_block hq5 0 (.slice A5 m c5))
        have hO := HS3.out.drop1 HM.out him (ho5.same (hset _ (by decide))) ((hSk _ (by decide)).trans (hset _ (by decide))) ((hSk _ (by decide)).trans (hset _ (by decide))) ((hSk _ (by decide)).trans (hset _ (by decide)))
        rw [← HS'.out] at hO
        have HO := Lib.hid hO
        have hB5 : Below B w w5 := (hbw3.mono hB).grown hg5 (by omega) (fun k e => (HN3.out.lt k e).1)
        have hs5 := hg5.size
        have HK5 := Lib.hid hSk
        clear hSk hset hO ho5 hg5 hu5 hq5
        go_wp2_with fail
        go_ret
        exact ⟨by rw [HF.out]; rfl, (fun _ => ⟨_, _, _, HQ6.out, HO.out, HBS.out⟩), hB5.setCell (p := ⟨bs, 0, none⟩) HBS.out _,
          (fun k cc fr hne hk => by rw [Below.heap_setCell _ _ _ _ hne]; exact HK5.out 25 (by decide) _ _ _ (Same.below hbw3 _ _ _ hk)), by simp [World.setCell]; omega⟩
end Go.Proofs.YtldmofffogjlkaaDoor
