/- Parts: ChC, ChD. -/
import Derived.Test.YtldonhgcifhpgaaMg15
import Derived.Test.YtldonhgcifhpgaaMg16
import Derived.Test.YtldonhgcifhpgaaMg09
/- Contract: change.rename. -/
namespace Go.Proofs.Ytldonhgcifhpgaa
open Go Go.RowKit


theorem chas_some {l : List Fld} {nm : ByteArray} (h : chas l nm = true) : ∃ f, l[cpos l nm]? = some f := by
  unfold chas eqAt at h
  cases hd : l[cpos l nm]? with
  | none => rw [hd] at h; simp at h
  | some d => exact ⟨d, rfl⟩
def renE (fs : List Fld) (nm tow : ByteArray) : Int := if chas fs nm then (if nameE tow = 0 then (if chas fs tow then 7 else 0) else nameE tow) else 5
def delF (fs : List Fld) (nm : ByteArray) : List Fld := fs.take (cpos fs nm) ++ fs.drop (cpos fs nm + 1)
def renF (fs : List Fld) (nm tow : ByteArray) : List Fld := match fs[cpos fs nm]? with | some f => addF (delF fs nm) ⟨tow, f.ty, f.must, f.key⟩ | none => fs
theorem chain_del {l : List Fld} (h : Rise l) (p : Nat) : Rise (l.take p ++ l.drop (p + 1)) := by
  unfold Rise at *
  rw [← List.eraseIdx_eq_take_drop_succ]
  exact h.sublist (List.eraseIdx_sublist _ _)
set_option maxRecDepth 100000 in
set_option maxHeartbeats 8000000 in
theorem cren_any (s : Scm) (i : Nat) (d : Knd) (nm tow : ByteArray) (gb o ck : Nat) (vb : Value) (xs : List Value) (B : Nat) (w : World) (hB : B ≤ w.heap.size) (hS : OwnS w B (.slice (some ⟨gb, o, none⟩) s.kinds.length ck) vb s xs) (hd : s.kinds[i]? = some d)
    (hc : Rise d.fields) (hl : d.fields.length ≤ 1000) (hto : Sm tow) :
    Calls Try.prog 119 #[.pointer (some ⟨gb, o + i * 3, none⟩), .string nm, .string tow] w (RetKF B (.slice (some ⟨gb, o, none⟩) s.kinds.length ck) vb (setF s i d (renF d.fields nm tow)) (renE d.fields nm tow) w) := by
  obtain ⟨u, x, k0, k1, k2, hnm, hof, ou, hfo, ox⟩ := hS.o.get hd
  have c0 : w.cell? ⟨gb, o + i * 3, none⟩ = some (.string d.name) := hS.n.cell rfl k0
  have c1 : w.cell? ⟨gb, o + i * 3 + 1, none⟩ = some u := hS.n.cell (j := i * 3 + 1) rfl k1
  have c2 : w.cell? ⟨gb, o + i * 3 + 2, none⟩ = some x := hS.n.cell (j := i * 3 + 2) rfl k2
  obtain ⟨Au, cu, rfl, _, _⟩ := ou.form
  obtain ⟨Ax, cx, rfl, _, _⟩ := ox.form
  have hsl : Sl fldL w (.slice Ax d.fields.length cx) d.fields := ox.flds hfo
  have hf1 := cfield_any d.name d.fields nm Au d.ofs.length cu _ w hsl (rise_chain hc) hl
  have HS := Lib.hid hS
  have HD := Lib.hid hd
  have HC := Lib.hid hc
  have HK2 := Lib.hid k2
  have HRE : Hid (renE d.fields nm tow = if chas d.fields nm then (if nameE tow = 0 then (if chas d.fields tow then 7 else 0) else nameE tow) else 5) := rfl
  have HRF : Hid (∀ f, d.fields[cpos d.fields nm]? = some f → renF d.fields nm tow = addF (delF d.fields nm) ⟨tow, f.ty, f.must, f.key⟩) := fun f h => by unfold renF; rw [h]
  have HCS : Hid (chas d.fields nm = true → ∃ f, d.fields[cpos d.fields nm]? = some f) := chas_some
  have HDF : Hid (delF d.fields nm = d.fields.take (cpos d.fields nm) ++ d.fields.drop (cpos d.fields nm + 1)) := rfl
  clear hS hd hc k0 k1 k2 ou hof hnm
  generalize chas d.fields nm = q at *
  generalize cpos d.fields nm = p at *
  go_enter Try.func119, Try.ntmps119
  go_wp2_with fail
  refine hf1.mono ?_
  clear hf1
  rintro e w1 ⟨rfl, hb1⟩
  have c0 := cell_below hb1 c0
  have c1 := cell_below hb1 c1
  have c2 := cell_below hb1 c2
  have hs1 := hb1.size
  have HB1 := Lib.hid (hb1.mono hB)
  have HM1 : Hid (Same 25 w w1) := Same.below hb1
  have HS1 := Lib.hid (HS.out.below hb1)
  have HL1 := Lib.hid (hsl.below hb1)
  clear hb1 HS hsl
  cases q with
  | false =>
    have HF : Hid (renE d.fields nm tow = 5) := by unfold Hid; rw [HRE.out]; rfl
    clear HRE
    go_wp2_with fail
    go_ret
    exact ⟨by rw [HF.out]; rfl, (fun h => by rw [HF.out] at h; omega), HB1.out, HM1.out, hs1⟩
  | true =>
    obtain ⟨f, hf⟩ := HCS.out rfl
    have HRF2 := Lib.hid (HRF.out f hf)
    have HFA := Lib.hid hf
    have HRE2 : Hid (renE d.fields nm tow = if nameE tow = 0 then (if chas d.fields tow then 7 else 0) else nameE tow) := by unfold Hid; rw [HRE.out]; rfl
    clear HRE HRF HCS hf
    go_wp2_with fail
    refine (name_any tow w1 hto).mono ?_
    rintro e w2 ⟨rfl, hb2⟩
    have c0 := cell_below hb2 c0
    have c1 := cell_below hb2 c1
    have c2 := cell_below hb2 c2
    have hs2 : w.heap.size ≤ w2.heap.size := by have := hb2.size; omega
    have HB2 : Hid (Below B w w2) := HB1.out.trans (hb2.mono (by omega))
    have HM2 : Hid (Same 25 w w2) := HM1.out.trans (Same.below hb2)
    have HS2 := Lib.hid (HS1.out.below hb2)
    have hsl2 := HL1.out.below hb2
    clear hb2 HS1 HL1 HB1 HM1
    by_cases he : nameE tow = 0
    case neg =>
      have HF : Hid (errV (renE d.fields nm tow) = .iface 98 (.int .i64 (nameE tow)) ∧ ¬ renE d.fields nm tow = 0) := by
        have h0 : renE d.fields nm tow = nameE tow := by rw [HRE2.out, if_neg he]
        exact ⟨by rw [h0]; exact errV_some he, by rw [h0]; exact he⟩
      rw [errV_some he]
      clear he HRE2
      go_wp2_with fail
      go_ret
      exact ⟨by rw [HF.out.1]; rfl, (fun h => absurd h HF.out.2), HB2.out, HM2.out, hs2⟩
    have HRE3 : Hid (renE d.fields nm tow = if chas d.fields tow then 7 else 0) := by unfold Hid; rw [HRE2.out, if_pos he]
    rw [errV_zero he]
    have hf2 := cfield_any d.name d.fields tow Au d.ofs.length cu _ w2 hsl2 (rise_chain HC.out) hl
    have HL2 := Lib.hid hsl2
    clear he HRE2 hsl2
    generalize chas d.fields tow = q at *
    generalize cpos d.fields tow = p2 at *
    go_wp2_with fail
    refine hf2.mono ?_
    clear hf2
    rintro e w3 ⟨rfl, hb3⟩
    have c0 := cell_below hb3 c0
    have c1 := cell_below hb3 c1
    have c2 := cell_below hb3 c2
    have hs3 : w.heap.size ≤ w3.heap.size := by have := hb3.size; omega
    have HB3 : Hid (Below B w w3) := HB2.out.trans (hb3.mono (by omega))
    have HM3 : Hid (Same 25 w w3) := HM2.out.trans (Same.below hb3)
    have HS3 := Lib.hid (HS2.out.below hb3)
    have HL3 := Lib.hid (HL2.out.below hb3)
    clear hb3 HS2 HL2 HB2 HM2
    cases q with
    | true =>
      have HF : Hid (renE d.fields nm tow = 7) := by unfold Hid; rw [HRE3.out]; rfl
      clear HRE3
      go_wp2_with fail
      go_ret
      exact ⟨by rw [HF.out]; rfl, (fun h => by rw [HF.out] at h; omega), HB3.out, HM3.out, hs3⟩
    | false =>
      have HF : Hid (renE d.fields nm tow = 0) := by unfold Hid; rw [HRE3.out]; rfl
      clear HRE3
      obtain ⟨bf, of, rfl, hfok, z0, z1, z2, z3⟩ := fld_at HL3.out HFA.out
      have hpl := (List.getElem?_eq_some_iff.1 HFA.out).1
      have hpl' : (p : Int) < (d.fields.length : Int) := by omega
      have hl' : (d.fields.length : Int) ≤ 1000 := by omega
      obtain ⟨m, hm⟩ : ∃ m, d.fields.length = m + 1 := ⟨d.fields.length - 1, by omega⟩
      have hxb : Below w3.heap.size w3 (w3.alloc (.cells #[.string tow, .int .i64 f.ty, .bool f.must, .bool f.key] 33)) := (Below.refl _ _).alloc (Nat.le_refl _) _
      have hS4 := HS3.out.below hxb
      obtain ⟨_, _, _, _, k4, _, _, _, hfo4, ox4⟩ := hS4.o.get HD.out
      obtain rfl := Option.some.inj (HK2.out.symm.trans k4)
      have hbf := (ox4.lt bf rfl).2
      rw [hm] at ox4
      have hdel := del1_flds (w3.alloc (.cells #[.string tow, .int .i64 f.ty, .bool f.must, .bool f.key] 33)) B (.slice (some ⟨bf, of, none⟩) (m + 1) cx) m (d.fields.flatMap Fld.enc) ox4 p (by omega) (oneCell_flat Fld.enc_one d.fields) (by omega)
      rw [flat_take Fld.enc_len d.fields p (by omega), flat_drop Fld.enc_len d.fields (p + 1) (by omega), ← List.flatMap_append, ← HDF.out] at hdel
      have HDL : Hid ((delF d.fields nm).length = m) := by unfold Hid; rw [HDF.out]; simp; omega
      have HDR : Hid (Rise (delF d.fields nm)) := by unfold Hid; rw [HDF.out]; exact chain_del HC.out p
      have HDO : Hid (∀ y ∈ delF d.fields nm, y.ok) := fun y hy => by
        rw [HDF.out] at hy
        rcases List.mem_append.1 hy with h | h
        · exact hfo4 y (List.mem_of_mem_take h)
        · exact hfo4 y (List.mem_of_mem_drop h)
      have HS4 := Lib.hid hS4
      have HOX := Lib.hid ox4
      have v0 := cell_below hxb c0
      have v1 := cell_below hxb c1
      have v2 := cell_below hxb c2
      have hbn := heap_alloc_new w3 (.cells #[.string tow, .int .i64 f.ty, .bool f.must, .bool f.key] 33)
      have HB4 : Hid (Below B w (w3.alloc (.cells #[.string tow, .int .i64 f.ty, .bool f.must, .bool f.key] 33))) := HB3.out.alloc (by omega) _
      have HM4 : Hid (Same 25 w (w3.alloc (.cells #[.string tow, .int .i64 f.ty, .bool f.must, .bool f.key] 33))) := HM3.out.trans (Same.below hxb)
      have hs4 : (w3.alloc (.cells #[.string tow, .int .i64 f.ty, .bool f.must, .bool f.key] 33)).heap.size = w3.heap.size + 1 := by simp
      have hbf3 := (HS3.out.o.get HD.out)
      have hbf3' : bf < w3.heap.size := by
        obtain ⟨_, _, _, _, k5, _, _, _, _, ox5⟩ := hbf3
        obtain rfl := Option.some.inj (HK2.out.symm.trans k5)
        exact (ox5.lt bf rfl).2
      clear hS4 k4 ox4 hfo4 hbf3 HL3
      rw [hm] at v2 c2
      have hpm : (p : Int) < (m : Int) + 1 := by omega
      have hpm2 : (p : Int) < ((m + 1 : Nat) : Int) := by omega
      have hm9 : (m : Int) ≤ 1000 := by omega
      clear hm hbf
      go_wp2_with fail
      generalize hW4 : w3.alloc (.cells #[.string tow, .int .i64 f.ty, .bool f.must, .bool f.key] 33) = W4 at *
      refine hdel.mono ?_
      clear hdel
      rintro e w5 ⟨u5, rfl, ho5, hg5, hu5⟩
      have hfin := field_put HS4.out HD.out HK2.out (by rw [HDL.out]; exact ho5) hg5 (.inl hu5) HDO.out
      have hfr := hfin.2.2.1
      have hcl := hfin.2.2.2.1
      have hb5 := (hg5.block w3.heap.size (by omega) (fun e => by simp [Value.ownBlock] at e; omega)).trans hbn
      obtain ⟨A5, c5, rfl, _, _⟩ := ho5.form
      have hd6 : (setF s i d (delF d.fields nm)).kinds[i]? = some ⟨d.name, d.ofs, delF d.fields nm⟩ := List.getElem?_set_self (List.getElem?_eq_some_iff.1 HD.out).1
      have hxl : i * 3 + 2 < xs.length := (List.getElem?_eq_some_iff.1 HK2.out).1
      have HK6 : Hid ((xs.set (i * 3 + 2) (.slice A5 m c5))[i * 3 + 2]? = some (.slice A5 m c5)) := List.getElem?_set_self hxl
      have hS6 := hfin.1
      have hlen6 : (setF s i d (delF d.fields nm)).kinds.length = s.kinds.length := List.length_set ..
      have n6 := hS6.n
      rw [hlen6] at n6
      obtain ⟨u6, x6, k60, k61, k62, _, _, ou6, hfo6, ox6⟩ := hS6.o.get hd6
      obtain rfl := Option.some.inj (HK6.out.symm.trans k62)
      have e0 : (w5.setCell ⟨gb, o + i * 3 + 2, none⟩ (.slice A5 m c5)).cell? ⟨gb, o + i * 3, none⟩ = some (.string d.name) := n6.cell rfl k60
      have e1 : (w5.setCell ⟨gb, o + i * 3 + 2, none⟩ (.slice A5 m c5)).cell? ⟨gb, o + i * 3 + 1, none⟩ = some u6 := n6.cell (j := i * 3 + 1) rfl k61
      have e2 : (w5.setCell ⟨gb, o + i * 3 + 2, none⟩ (.slice A5 m c5)).cell? ⟨gb, o + i * 3 + 2, none⟩ = some (.slice A5 m c5) := n6.cell (j := i * 3 + 2) rfl k62
      obtain ⟨A6, c6, rfl, _, _⟩ := ou6.form
      have hgl : gb < w3.heap.size := (HS3.out.n.lt gb rfl).2
      have b6 : (w5.setCell ⟨gb, o + i * 3 + 2, none⟩ (.slice A5 m c5)).heap[w3.heap.size]? = some (.cells #[.string tow, .int .i64 f.ty, .bool f.must, .bool f.key] 33 (0, 0)) := by
        rw [Below.heap_setCell _ _ _ _ (by show w3.heap.size ≠ gb; omega)]; exact hb5
      have hcf := cfield_any d.name (delF d.fields nm) tow A6 d.ofs.length c6 (.slice A5 m c5) _ (ox6.flds hfo6) (rise_chain HDR.out) (by rw [HDL.out]; omega)
      have hs5 := hg5.size
      have HB6 : Hid (Below B w (w5.setCell ⟨gb, o + i * 3 + 2, none⟩ (.slice A5 m c5))) := (HB4.out.grown hg5 (by omega) (fun k e => (HOX.out.lt k e).1)).setCell (p := ⟨gb, o + i * 3 + 2, none⟩) hfin.2.2.2.2 _
      have HM6 : Hid (Same 25 w (w5.setCell ⟨gb, o + i * 3 + 2, none⟩ (.slice A5 m c5))) := HM4.out.trans (hfin.2.1 25 (by decide) (by decide))
      have HL6 := Lib.hid hlen6
      have HS6 := Lib.hid hS6
      have HD6 := Lib.hid hd6
      have hw6 : w.heap.size ≤ (w5.setCell ⟨gb, o + i * 3 + 2, none⟩ (.slice A5 m c5)).heap.size := by simp [World.setCell]; omega
      have q0 := block_cell b6 0
      have q1 := block_cell b6 1
      have q2 := block_cell b6 2
      have q3 := block_cell b6 3
      have HAF : Hid (addF (delF d.fields nm) ⟨tow, f.ty, f.must, f.key⟩ = (delF d.fields nm).take (cpos (delF d.fields nm) tow) ++ ⟨tow, f.ty, f.must, f.key⟩ :: (delF d.fields nm).drop (cpos (delF d.fields nm) tow)) := rfl
      have hKl : cpos (delF d.fields nm) tow ≤ (delF d.fields nm).length := lowI_le _ _
      generalize chas (delF d.fields nm) tow = qq at *
      generalize cpos (delF d.fields nm) tow = Kp at *
      clear n6 hlen6 hfin ho5 hg5 hu5 hS6 hd6 k60 k61 k62 ou6 ox6 hfo6 hbn hb5 b6
      go_wp2_with fail
      generalize hW6 : w5.setCell ⟨gb, o + i * 3 + 2, none⟩ (.slice A5 m c5) = W6 at *
      refine hcf.mono ?_
      clear hcf
      rintro e w7 ⟨rfl, hb7⟩
      have x0 := cell_below hb7 q0
      have x1 := cell_below hb7 q1
      have x2 := cell_below hb7 q2
      have x3 := cell_below hb7 q3
      have c2 := cell_below hb7 e2
      have HS7 := Lib.hid (HS6.out.below hb7)
      have HB7 : Hid (Below B w w7) := HB6.out.trans (hb7.mono (by omega))
      have HM7 : Hid (Same 25 w w7) := HM6.out.trans (Same.below hb7)
      have hw7 : w.heap.size ≤ w7.heap.size := by have := hb7.size; omega
      clear q0 q1 q2 q3 e0 e1 e2 v0 v1 v2
      have hS7 : OwnS w7 B (.slice (some ⟨gb, o, none⟩) (setF s i d (delF d.fields nm)).kinds.length ck) vb (setF s i d (delF d.fields nm)) (xs.set (i * 3 + 2) (.slice A5 m c5)) := by rw [HL6.out]; exact HS7.out
      have HSF : Hid (setF (setF s i d (delF d.fields nm)) i ⟨d.name, d.ofs, delF d.fields nm⟩ (addF (delF d.fields nm) ⟨tow, f.ty, f.must, f.key⟩) = setF s i d (renF d.fields nm tow)) := by
        rw [HRF2.out]; unfold Hid setF; simp
      have hxb : Below w7.heap.size w7 (w7.alloc (.cells #[.string tow, .int .i64 f.ty, .bool f.must, .bool f.key] 33)) := (Below.refl _ _).alloc (Nat.le_refl _) _
      have hxd := hxb.drew
      have hSx := hS7.below hxd
      obtain ⟨_, _, _, _, k2x, _, _, _, hfo, ox⟩ := hSx.o.get HD6.out
      obtain rfl := Option.some.inj (HK6.out.symm.trans k2x)
      have hbl := ox.lt
      have hbl7 : ∀ k, (Value.slice A5 m c5).ownBlock = some k → k < w7.heap.size := fun k e => by
        obtain ⟨_, _, _, _, k2y, _, _, _, _, oy⟩ := hS7.o.get HD6.out
        obtain rfl := Option.some.inj (HK6.out.symm.trans k2y)
        exact (oy.lt k e).2
      have ox' : Own (w7.alloc (.cells #[.string tow, .int .i64 f.ty, .bool f.must, .bool f.key] 33)).drew B 33 4 (.slice A5 m c5) (delF d.fields nm).length ((delF d.fields nm).flatMap Fld.enc) := ox
      have hil := ins_fld_at (w7.alloc (.cells #[.string tow, .int .i64 f.ty, .bool f.must, .bool f.key] 33)).drew B (.slice A5 m c5) (delF d.fields nm).length ((delF d.fields nm).flatMap Fld.enc) ox' Kp hKl w7.heap.size (⟨tow, f.ty, f.must, f.key⟩ : Fld).enc rfl (heap_alloc_new w7 _) (Fld.enc_one _) (oneCell_flat Fld.enc_one _)
        (fun e => by have := hbl7 _ e; omega) (by have := hxd.size; omega) (by rw [HDL.out]; omega)
      have hfi := flat_insert Fld.enc_len (delF d.fields nm) Kp hKl ⟨tow, f.ty, f.must, f.key⟩
      rw [hfi, ← HAF.out] at hil
      have HAL : Hid ((addF (delF d.fields nm) ⟨tow, f.ty, f.must, f.key⟩).length = (delF d.fields nm).length + 1) := by rw [HAF.out]; unfold Hid; simp; omega
      have HAOK : Hid (∀ y ∈ addF (delF d.fields nm) ⟨tow, f.ty, f.must, f.key⟩, y.ok) := fun y hy => by
        rw [HAF.out] at hy
        rcases List.mem_append.1 hy with h | h
        · exact HDO.out y (List.mem_of_mem_take h)
        · rcases List.mem_cons.1 h with rfl | h
          · exact ⟨hto, hfok.2⟩
          · exact HDO.out y (List.mem_of_mem_drop h)
      have HSX := Lib.hid hSx
      have HBX := Lib.hid hxd
      have c2x := cell_below hxb c2
      have x0x := cell_below hxb x0
      have x1x := cell_below hxb x1
      have x2x := cell_below hxb x2
      have x3x := cell_below hxb x3
      have HBL := Lib.hid hbl
      clear hfi hSx ox ox' k2x hfo hbl hbl7 hS7
      go_wp2_with fail
      go_region_law
        (first
          | (refine step_callx rfl 145 #[.slice A5 m c5, .int .i64 Kp, .slice (some ⟨w7.heap.size, 0, none⟩) 1 1] (by kernel_rfl) hil ?_
             rintro e w8 ⟨u8, rfl, ho8, hg8, hat8⟩
             refine ⟨_, rfl, ?_⟩
             have hfin := field_put HSX.out HD6.out HK6.out (by rw [HAL.out]; exact ho8) hg8 hat8 HAOK.out
             have hfr := hfin.2.2.1
             have hcl := hfin.2.2.2.1
             obtain ⟨A8, c8, rfl, _, _⟩ := ho8.form))
      all_goals
        have hbw8 : Below B w w8 := (HB7.out.trans (HBX.out.mono (by omega))).grown hg8 (by have := HBX.out.size; omega) (fun k e => (HBL.out k e).1)
        have hs8 := hg8.size
        have hs9 := HBX.out.size
        have hsm := HM7.out.trans ((Same.below HBX.out).trans (hfin.2.1 25 (by decide) (by decide)))
        have hgB := hfin.2.2.2.2
        have HFIN := Lib.hid hfin.1
        clear hfin ho8 hg8 hat8 hil c2x x0x x1x x2x x3x
        go_wp2_with fail
        go_ret
        exact ⟨by rw [HF.out]; rfl, (fun _ => ⟨_, by have := HFIN.out; rw [HSF.out, HL6.out] at this; exact this⟩), hbw8.setCell (p := ⟨gb, o + i * 3 + 2, none⟩) hgB _, hsm, by simp [World.setCell]; omega⟩
end Go.Proofs.Ytldonhgcifhpgaa

/- Contract: change.fields. -/
namespace Go.Proofs.Ytldonhgcifhpgaa
open Go Go.RowKit


structure Chg where
  what : Int
  name : ByteArray
  kind : Knd
  bond : Bnd
  fld : Fld
  val : Val
  tow : ByteArray
def chgCells (c : Chg) (vo vf : Value) : Array Value := #[.int .i64 c.what, .string c.name, .string c.kind.name, vo, vf, .string c.bond.name, .string c.bond.src, .string c.bond.dst, .int .i64 c.bond.mn, .int .i64 c.bond.mx, .string c.fld.name, .int .i64 c.fld.ty, .bool c.fld.must, .bool c.fld.key, .int .i64 c.val.ty, .int .i64 c.val.n, .string c.val.s, .string c.tow]
structure ChgR (w : World) (vo vf : Value) (c : Chg) : Prop where
  n : Sm c.name
  kn : Sm c.kind.name
  ko : Sl strL w vo c.kind.ofs
  kf : Sl fldL w vf c.kind.fields
  b : c.bond.ok
  f : c.fld.ok
  v : c.val.ok
  t : Sm c.tow
theorem ChgR.below {w w' : World} {vo vf : Value} {c : Chg} (h : ChgR w vo vf c) (hb : Below w.heap.size w w') : ChgR w' vo vf c := ⟨h.n, h.kn, h.ko.below hb, h.kf.below hb, h.b, h.f, h.v, h.t⟩
/-- A schema of the call's own, in a block. -/
structure SW (w : World) (B bs : Nat) (vk vb : Value) (s : Scm) (xs : List Value) : Prop where
  q : w.heap[bs]? = some (.cells #[vk, vb] 25 (0, 0))
  o : OwnS w B vk vb s xs
  l : B ≤ bs
/-- What comes of a change of a schema that lies in a block. -/
def RetSW (B bs : Nat) (s : Scm) (err : Int) (w : World) (e : Ending) (w' : World) : Prop :=
  e = .returned (errV err) ∧ (err = 0 → ∃ vk vb xs, SW w' B bs vk vb s xs) ∧ Below B w w' ∧ (∀ k c fr, k ≠ bs → w.heap[k]? = some (.cells c 25 fr) → w'.heap[k]? = some (.cells c 25 fr)) ∧ w.heap.size ≤ w'.heap.size
theorem RetKF.sw {B bs : Nat} {vk vb : Value} {s s' : Scm} {err err' : Int} {w w0 w' : World} {e : Ending} (h : RetKF B vk vb s err w e w') (hs : s = s') (he : err = err') (hb : Below B w0 w) (hm : Same 25 w0 w) (hsz : w0.heap.size ≤ w.heap.size) (hq : w.heap[bs]? = some (.cells #[vk, vb] 25 (0, 0))) (hl : B ≤ bs) : RetSW B bs s' err' w0 e w' := by
  subst hs; subst he
  obtain ⟨h1, h2, h3, h4, h5⟩ := h
  refine ⟨h1, fun h => ?_, hb.trans h3, fun k c fr _ hk => h4 _ _ _ (hm _ _ _ hk), by omega⟩
  obtain ⟨xs, hx⟩ := h2 h
  exact ⟨vk, vb, xs, h4 _ _ _ hq, hx, hl⟩
def fldE2 (d : Knd) (c : Chg) : Int := if c.what = 3 then addE d.fields c.fld c.val else if c.what = 7 then renE d.fields c.fld.name c.tow else if chas d.fields c.fld.name then 0 else 5
def fldF2 (d : Knd) (c : Chg) : List Fld := if c.what = 3 then addF d.fields c.fld else if c.what = 7 then renF d.fields c.fld.name c.tow else delF d.fields c.fld.name
def fieldsE (s : Scm) (c : Chg) : Int := match s.kinds[(kFind s.kinds c.name).toNat]? with | some d => if kFind s.kinds c.name < 0 then 5 else fldE2 d c | none => 5
def fieldsS (s : Scm) (c : Chg) : Scm := match s.kinds[(kFind s.kinds c.name).toNat]? with | some d => setF s (kFind s.kinds c.name).toNat d (fldF2 d c) | none => s
theorem kFind_cases (l : List Knd) (nm : ByteArray) : kFind l nm < 0 ∨ ∃ (i : Nat) (d : Knd), kFind l nm = i ∧ l[i]? = some d := by
  rcases Int.lt_or_le (kFind l nm) 0 with h | h
  · exact .inl h
  · obtain ⟨k, d, h1, h2, _⟩ := idxI_nonneg h
    exact .inr ⟨k, d, h1, h2⟩
set_option maxRecDepth 100000 in
set_option maxHeartbeats 8000000 in
theorem cfields_any (s : Scm) (c : Chg) (bs : Nat) (vk vb vo vf : Value) (xs : List Value) (B : Nat) (w : World) (hB : B ≤ w.heap.size) (hS : SW w B bs vk vb s xs) (hc : ChgR w vo vf c) (hr : ∀ d ∈ s.kinds, Rise d.fields ∧ d.fields.length ≤ 1000) :
    Calls Try.prog 70 #[.pointer (some ⟨bs, 0, none⟩), .agg (chgCells c vo vf)] w (RetSW B bs (fieldsS s c) (fieldsE s c) w) := by
  obtain ⟨Ak, ck, rfl, _, _⟩ := hS.o.n.form
  obtain ⟨Ab, cb, rfl, _, _⟩ := hS.o.b.form
  obtain ⟨Ao, co, rfl, _, _⟩ := hc.ko.form
  obtain ⟨Af, cf, rfl, _, _⟩ := hc.kf.form
  obtain ⟨what, name, kind, bond, fld, val, tow⟩ := c
  have hcc : ChgR w (.slice Ao kind.ofs.length co) (.slice Af kind.fields.length cf) ⟨what, name, kind, bond, fld, val, tow⟩ := hc
  clear hc
  show Calls Try.prog 70 #[.pointer (some ⟨bs, 0, none⟩), .agg #[.int .i64 what, .string name, .string kind.name, .slice Ao kind.ofs.length co, .slice Af kind.fields.length cf, .string bond.name, .string bond.src, .string bond.dst, .int .i64 bond.mn, .int .i64 bond.mx, .string fld.name, .int .i64 fld.ty, .bool fld.must, .bool fld.key, .int .i64 val.ty, .int .i64 val.n, .string val.s, .string tow]] w _
  obtain ⟨W0, hW0⟩ : ∃ W0, W0 = w.alloc (.cells #[.int .i64 what, .string name, .string kind.name, .slice Ao kind.ofs.length co, .slice Af kind.fields.length cf, .string bond.name, .string bond.src, .string bond.dst, .int .i64 bond.mn, .int .i64 bond.mx, .string fld.name, .int .i64 fld.ty, .bool fld.must, .bool fld.key, .int .i64 val.ty, .int .i64 val.n, .string val.s, .string tow] 37) := ⟨_, rfl⟩
  have hb0 : Below w.heap.size w W0 := by rw [hW0]; exact (Below.refl _ _).alloc (Nat.le_refl _) _
  have g0 : W0.heap[w.heap.size]? = some (.cells #[.int .i64 what, .string name, .string kind.name, .slice Ao kind.ofs.length co, .slice Af kind.fields.length cf, .string bond.name, .string bond.src, .string bond.dst, .int .i64 bond.mn, .int .i64 bond.mx, .string fld.name, .int .i64 fld.ty, .bool fld.must, .bool fld.key, .int .i64 val.ty, .int .i64 val.n, .string val.s, .string tow] 37 (0, 0)) := by rw [hW0]; exact heap_alloc_new _ _
  have hq0 : W0.heap[bs]? = some (.cells #[.slice Ak s.kinds.length ck, .slice Ab s.bonds.length cb] 25 (0, 0)) := (hb0.block _ (Array.getElem?_eq_some_iff.1 hS.q).1).trans hS.q
  have hW0' := hW0.symm
  have x0 := block_cell hq0 0
  have x1 := block_cell hq0 1
  have y0 := block_cell g0 0
  have y1 := block_cell g0 1
  have HS0 := Lib.hid (hS.o.below hb0)
  have HBS := Lib.hid hS.l
  have HC := Lib.hid hcc
  have HR := Lib.hid hr
  have HFE : Hid (fieldsE s ⟨what, name, kind, bond, fld, val, tow⟩ = match s.kinds[(kFind s.kinds name).toNat]? with | some d => if kFind s.kinds name < 0 then 5 else fldE2 d ⟨what, name, kind, bond, fld, val, tow⟩ | none => 5) := rfl
  have HFS : Hid (fieldsS s ⟨what, name, kind, bond, fld, val, tow⟩ = match s.kinds[(kFind s.kinds name).toNat]? with | some d => setF s (kFind s.kinds name).toNat d (fldF2 d ⟨what, name, kind, bond, fld, val, tow⟩) | none => s) := rfl
  have hkc := kFind_cases s.kinds name
  have hw0 := hb0.size
  have HQ0 := Lib.hid hq0
  have HG0 := Lib.hid g0
  clear hS hcc hr hW0 hq0 g0
  go_enter Try.func70, Try.ntmps70
  go_wp2_with fail
  refine wp_mid_k 6 _ rfl rfl (by kernel_rfl) (by kernel_rfl) ?_
  simp only [List.take_succ_cons, List.take_zero, List.drop_succ_cons, List.drop_zero]
  repeat (go_big_quiet_step (fail))
  refine wpQuiet_nil ?_
  intro _ hw'
  obtain ⟨nq, hw''⟩ := hw'
  subst hw''
  intro K hK
  have hkf := kFind_any s.kinds name (.slice Ak s.kinds.length ck) (W0.drewN nq) (HS0.out.r.1.below (below_drewN (Below.refl _ _) nq))
  generalize kFind s.kinds name = z at *
  go_wp2_with fail
  refine hkf.mono ?_
  clear hkf
  rintro e w1 ⟨rfl, hb1⟩
  have hb01 := (below_drewN (Below.refl W0.heap.size W0) nq).trans hb1
  refine hK _ _ ?_
  repeat (go_big_quiet_step (fail))
  refine wpQuiet_nil ?_
  intro _ hw'
  obtain ⟨nq2, hw''⟩ := hw'
  subst hw''
  clear hK
  have hbW := below_drewN hb01 nq2
  generalize w1.drewN nq2 = W1 at *
  have x0 := cell_below hbW x0
  have x1 := cell_below hbW x1
  have hg1 := (hbW.block _ (Array.getElem?_eq_some_iff.1 HG0.out).1).trans HG0.out
  have HQ1 := Lib.hid ((hbW.block _ (Array.getElem?_eq_some_iff.1 HQ0.out).1).trans HQ0.out)
  have HS1 := Lib.hid (HS0.out.below hbW)
  have hbw := hb0.trans (hbW.mono hw0)
  have HB1 := Lib.hid (hbw.mono hB)
  have HM1 : Hid (Same 25 w W1) := Same.below hbw
  have hs1 := hbw.size
  have u0 := block_cell hg1 0
  have u10 := block_cell hg1 10
  have u11 := block_cell hg1 11
  have u12 := block_cell hg1 12
  have u13 := block_cell hg1 13
  have u14 := block_cell hg1 14
  have u15 := block_cell hg1 15
  have u16 := block_cell hg1 16
  have u17 := block_cell hg1 17
  clear hb1 hb01 hbW hbw hb0 y0 y1 hg1 HQ0 HG0
  rcases hkc with hz | ⟨i, d, rfl, hd⟩
  · have HF : Hid (fieldsE s ⟨what, name, kind, bond, fld, val, tow⟩ = 5) := by
      unfold Hid; rw [HFE.out]; split
      · rw [if_pos hz]
      · rfl
    clear HFE HFS
    go_wp2_with fail
    go_ret
    exact ⟨by rw [HF.out]; rfl, (fun h => by rw [HF.out] at h; omega), HB1.out, (fun k cc fr _ hk => HM1.out _ _ _ hk), hs1⟩
  · have HE2 : Hid (fldE2 d ⟨what, name, kind, bond, fld, val, tow⟩ = fieldsE s ⟨what, name, kind, bond, fld, val, tow⟩) := by
      unfold Hid; rw [HFE.out, Int.toNat_natCast, hd]; simp only; rw [if_neg (by omega)]
    have HS2 : Hid (setF s i d (fldF2 d ⟨what, name, kind, bond, fld, val, tow⟩) = fieldsS s ⟨what, name, kind, bond, fld, val, tow⟩) := by
      unfold Hid; rw [HFS.out, Int.toNat_natCast, hd]
    have HD := Lib.hid hd
    obtain ⟨hri, hle⟩ := HR.out d (List.mem_of_getElem? hd)
    have HRI := Lib.hid hri
    have hil := (List.getElem?_eq_some_iff.1 hd).1
    obtain ⟨gb, o, c2, hv, hgb1, hgb2⟩ := HS1.out.n.addr (by omega)
    injection hv with hv1 hv2 hv3
    subst hv1; subst hv3
    have hil' : (i : Int) < (s.kinds.length : Int) := by omega
    have hi0 : (0 : Int) ≤ (i : Int) := by omega
    clear hd hri HFE HFS HR
    by_cases h3 : what = 3
    · subst h3
      have hcall := cadd_any s i d fld val gb o ck (.slice Ab s.bonds.length cb) xs B W1 (by omega) HS1.out HD.out (rise_chain HRI.out) hle HC.out.f HC.out.v
      go_wp2_with fail
      refine hcall.mono ?_
      clear hcall
      intro e w5 h5
      have h6 := h5.sw (B := B) (bs := bs) (w0 := w) HS2.out HE2.out HB1.out HM1.out hs1 HQ1.out HBS.out
      obtain ⟨rfl, hrest⟩ := h6
      have HREST := Lib.hid hrest
      clear h5 hrest
      generalize hee : fieldsE s ⟨3, name, kind, bond, fld, val, tow⟩ = ee at *
      go_wp2_with fail
      go_ret
      exact ⟨rfl, HREST.out⟩
    have b3 : (what == 3) = false := beq_eq_false_iff_ne.2 h3
    by_cases h7 : what = 7
    · subst h7
      have hcall := cren_any s i d fld.name tow gb o ck (.slice Ab s.bonds.length cb) xs B W1 (by omega) HS1.out HD.out HRI.out hle HC.out.t
      go_wp2_with fail
      refine hcall.mono ?_
      clear hcall
      intro e w5 h5
      have h6 := h5.sw (B := B) (bs := bs) (w0 := w) HS2.out HE2.out HB1.out HM1.out hs1 HQ1.out HBS.out
      obtain ⟨rfl, hrest⟩ := h6
      have HREST := Lib.hid hrest
      clear h5 hrest
      generalize hee : fieldsE s ⟨7, name, kind, bond, fld, val, tow⟩ = ee at *
      go_wp2_with fail
      go_ret
      exact ⟨rfl, HREST.out⟩
    have b7 : (what == 7) = false := beq_eq_false_iff_ne.2 h7
    have HE3 : Hid (fieldsE s ⟨what, name, kind, bond, fld, val, tow⟩ = if chas d.fields fld.name then 0 else 5) := by
      unfold Hid; rw [← HE2.out]; unfold fldE2; simp only [h3, h7, if_false]
    have HS3 : Hid (setF s i d (delF d.fields fld.name) = fieldsS s ⟨what, name, kind, bond, fld, val, tow⟩) := by
      unfold Hid; rw [← HS2.out]; unfold fldF2; simp only [h3, h7, if_false]
    obtain ⟨u, x, k0, k1, k2, _, _, ou, hfo, ox⟩ := HS1.out.o.get HD.out
    have c0 : W1.cell? ⟨gb, o + i * 3, none⟩ = some (.string d.name) := HS1.out.n.cell rfl k0
    have c1 : W1.cell? ⟨gb, o + i * 3 + 1, none⟩ = some u := HS1.out.n.cell (j := i * 3 + 1) rfl k1
    have c2 : W1.cell? ⟨gb, o + i * 3 + 2, none⟩ = some x := HS1.out.n.cell (j := i * 3 + 2) rfl k2
    obtain ⟨Au, cu, rfl, _, _⟩ := ou.form
    obtain ⟨Ax, cx, rfl, _, _⟩ := ox.form
    have HK2 := Lib.hid k2
    have HSL := Lib.hid (show Sl fldL W1 (.slice Ax d.fields.length cx) d.fields from ox.flds hfo)
    have HCS : Hid (chas d.fields fld.name = true → ∃ f, d.fields[cpos d.fields fld.name]? = some f) := chas_some
    have HDF : Hid (delF d.fields fld.name = d.fields.take (cpos d.fields fld.name) ++ d.fields.drop (cpos d.fields fld.name + 1)) := rfl
    clear k0 k1 k2 ou ox HE2 HS2
    go_wp2_with fail
    refine wp_mid_k 6 _ rfl rfl (by kernel_rfl) (by kernel_rfl) ?_
    simp only [List.take_succ_cons, List.take_zero, List.drop_succ_cons, List.drop_zero]
    repeat (go_big_quiet_step (fail))
    refine wpQuiet_nil ?_
    intro _ hw'
    obtain ⟨nq, hw''⟩ := hw'
    subst hw''
    intro K hK
    have hcf := cfield_any d.name d.fields fld.name Au d.ofs.length cu (.slice Ax d.fields.length cx) (W1.drewN nq) (HSL.out.below (below_drewN (Below.refl _ _) nq)) (rise_chain HRI.out) hle
    generalize chas d.fields fld.name = q at *
    generalize cpos d.fields fld.name = p at *
    go_wp2_with fail
    refine hcf.mono ?_
    clear hcf
    rintro e w2 ⟨rfl, hb2⟩
    have hb12 := (below_drewN (Below.refl W1.heap.size W1) nq).trans hb2
    refine hK _ _ ?_
    repeat (go_big_quiet_step (fail))
    refine wpQuiet_nil ?_
    intro _ hw'
    obtain ⟨nq2, hw''⟩ := hw'
    subst hw''
    clear hK
    have hbX := below_drewN hb12 nq2
    generalize w2.drewN nq2 = W2 at *
    have c2 := cell_below hbX c2
    have HSX := Lib.hid (HS1.out.below hbX)
    have HB2 : Hid (Below B w W2) := HB1.out.trans (hbX.mono (by omega))
    have HM2 : Hid (Same 25 w W2) := HM1.out.trans (Same.below hbX)
    have HQ2 := Lib.hid ((hbX.block _ (Array.getElem?_eq_some_iff.1 HQ1.out).1).trans HQ1.out)
    have hs2 : w.heap.size ≤ W2.heap.size := by have := hbX.size; omega
    clear hb2 hb12 hbX c0 c1 x0 x1 u0 u10 u11 u12 u13 u14 u15 u16 u17 HSL
    cases q with
    | false =>
      have HF : Hid (fieldsE s ⟨what, name, kind, bond, fld, val, tow⟩ = 5) := by unfold Hid; rw [HE3.out]; rfl
      clear HE3
      go_wp2_with fail
      go_ret
      exact ⟨by rw [HF.out]; rfl, (fun h => by rw [HF.out] at h; omega), HB2.out, (fun k cc fr _ hk => HM2.out _ _ _ hk), hs2⟩
    | true =>
      have HF : Hid (fieldsE s ⟨what, name, kind, bond, fld, val, tow⟩ = 0) := by unfold Hid; rw [HE3.out]; rfl
      obtain ⟨f, hf⟩ := HCS.out rfl
      have hpl := (List.getElem?_eq_some_iff.1 hf).1
      obtain ⟨m, hm⟩ : ∃ m, d.fields.length = m + 1 := ⟨d.fields.length - 1, by omega⟩
      obtain ⟨_, _, _, _, k4, _, _, _, hfo4, ox4⟩ := HSX.out.o.get HD.out
      obtain rfl := Option.some.inj (HK2.out.symm.trans k4)
      rw [hm] at ox4
      have hdel := del1_flds W2 B (.slice Ax (m + 1) cx) m (d.fields.flatMap Fld.enc) ox4 p (by omega) (oneCell_flat Fld.enc_one d.fields) (by omega)
      rw [flat_take Fld.enc_len d.fields p (by omega), flat_drop Fld.enc_len d.fields (p + 1) (by omega), ← List.flatMap_append, ← HDF.out] at hdel
      have HDL : Hid ((delF d.fields fld.name).length = m) := by unfold Hid; rw [HDF.out]; simp; omega
      have HDO : Hid (∀ y ∈ delF d.fields fld.name, y.ok) := fun y hy => by
        rw [HDF.out] at hy
        rcases List.mem_append.1 hy with h | h
        · exact hfo4 y (List.mem_of_mem_take h)
        · exact hfo4 y (List.mem_of_mem_drop h)
      have HOX := Lib.hid ox4
      have hpm : (p : Int) < (m : Int) + 1 := by omega
      have hm9 : (m : Int) ≤ 1000 := by omega
      have HOL : Hid ((Value.slice Ax d.fields.length cx).ownBlock = (Value.slice Ax (m + 1) cx).ownBlock) := own_len ..
      rw [hm] at c2
      clear k4 ox4 hfo4 HE3 HCS hf hpl hm
      go_wp2_with fail
      refine hdel.mono ?_
      clear hdel
      rintro e w5 ⟨u5, rfl, ho5, hg5, hu5⟩
      have hfin := field_put HSX.out HD.out HK2.out (by rw [HDL.out]; exact ho5) (by rw [HOL.out]; exact hg5) (.inl (by rw [HOL.out]; exact hu5)) HDO.out
      have hfr := hfin.2.2.1
      have hcl := hfin.2.2.2.1
      obtain ⟨A5, c5, rfl, _, _⟩ := ho5.form
      have hB5 : Below B w w5 := HB2.out.grown hg5 (by omega) (fun k e => (HOX.out.lt k e).1)
      have hs5 := hg5.size
      have HFIN := Lib.hid hfin
      clear hfin ho5 hg5 hu5
      go_wp2_with fail
      go_ret
      exact ⟨by rw [HF.out]; rfl, (fun _ => ⟨_, _, _, HFIN.out.2.1 25 (by decide) (by decide) _ _ _ HQ2.out, by rw [← HS3.out]; exact HFIN.out.1, HBS.out⟩), hB5.setCell (p := ⟨gb, o + i * 3 + 2, none⟩) HFIN.out.2.2.2.2 _,
        (fun k cc fr _ hk => HFIN.out.2.1 25 (by decide) (by decide) _ _ _ (HM2.out _ _ _ hk)), by simp [World.setCell]; omega⟩
end Go.Proofs.Ytldonhgcifhpgaa
