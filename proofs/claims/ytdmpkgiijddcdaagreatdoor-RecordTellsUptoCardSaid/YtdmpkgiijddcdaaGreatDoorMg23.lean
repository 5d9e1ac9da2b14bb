/- Parts: RTel. -/
import Derived.Test.YtdmpkgiijddcdaaGreatDoorMg13
import Derived.Test.YtdmpkgiijddcdaaGreatDoorMg20
import Derived.Test.YtdmpkgiijddcdaaGreatDoorMg21
import Derived.Test.YtdmpkgiijddcdaaGreatDoorMg22
import Derived.Deep.DeepCutAuto
import Derived.Deep.CutBlock
/- The law RecordTells, of the walks' contracts. Conditions: what the library's texts lean on (TxOk); the variable of errors.As; the texts are not too long. -/
namespace Go.Proofs.YtdmpkgiijddcdaaGreatDoor
open Go Go.RowKit

theorem pval_eql (x y : Val) (w : World) : (binOp .eql 43 (.agg #[.int .i64 x.ty, .int .i64 x.n, .string x.s]) (.agg #[.int .i64 y.ty, .int .i64 y.n, .string y.s])).run Tryz.prog w = .ok (.bool (decide (x = y))) w := by
  rw [run_eql_struct, show (10000 : Nat) = 9998 + 2 from rfl, pval_same]; rfl
theorem pval_guard (op : BinOp) (a b : Operand) (xs ys : Array Value) (w : World) : (eqGuard op 43 a b (.agg xs) (.agg ys)).run Tryz.prog w = .ok () w := run_eqGuard_agg w op 43 a b xs ys (by kernel_rfl)
theorem getE_parts {r : List Prp} {nm : ByteArray} (h : recE r = 0) : (rhas r nm = true → ∃ p, r[rpos r nm]? = some p ∧ getE r nm = 0 ∧ getV r nm = p.v) ∧ (rhas r nm = false → getE r nm = 5 ∧ getV r nm = noVal) := by
  constructor
  · intro hh
    obtain ⟨p, hp⟩ := rhas_some hh
    have e : getE r nm = 0 := by rw [get_has h, hh]; rfl
    refine ⟨p, hp, e, ?_⟩
    unfold getV; rw [if_pos e, hp]
  · intro hh
    have e : getE r nm = 5 := by rw [get_has h, hh]; rfl
    exact ⟨e, by unfold getV; rw [if_neg (by rw [e]; decide)]⟩
theorem joinE_bad {r o : List Prp} (h : joinE r o ≠ 0) : joinR r o = [] := by
  unfold joinE at h
  unfold joinR
  by_cases h1 : recE r = 0
  · rw [if_pos h1] at h
    by_cases h2 : recE o = 0
    · rw [if_pos h2] at h
      rw [if_pos ⟨h1, h2⟩]
      have key : ∀ (o r : List Prp), (joinG r o).1 ≠ 0 → (joinG r o).2 = [] := by
        intro o
        induction o with
        | nil => intro r h; exact absurd rfl h
        | cons p o ih =>
          intro r h
          rw [joinG_cons] at h ⊢
          by_cases hz : setE r p = 0
          · rw [if_pos hz] at h ⊢; exact ih _ h
          · rw [if_neg hz]
      exact key o r h
    · rw [if_neg (fun e => h2 e.2)]
  · rw [if_neg (fun e => h1 e.1)]
theorem joinE_ok {r o : List Prp} (h1 : recE r = 0) (h2 : recE o = 0) : joinE r o = (joinG r o).1 ∧ joinR r o = (joinG r o).2 := by
  unfold joinE joinR; rw [if_pos h1, if_pos h2, if_pos ⟨h1, h2⟩]; exact ⟨rfl, rfl⟩
theorem joinE_no {r o : List Prp} (h : (if recE r = 0 then recE o else recE r) ≠ 0) : joinE r o = if recE r = 0 then recE o else recE r := by
  unfold joinE
  by_cases h1 : recE r = 0
  · rw [if_pos h1] at h ⊢; rw [if_neg h, if_pos h1]
  · rw [if_neg h1, if_neg h1]
set_option maxRecDepth 100000 in
set_option maxHeartbeats 32000000 in
theorem recordTells_any (r o : List Prp) (p : Prp) (nm s : ByteArray) (va vb : Value) (w : World) (hT : TxOk w) (hg : GlobOk w) (hr : Sl prpL w va r) (ho : Sl prpL w vb o) (hp : p.ok) (_hnm : Sm nm) (hs : Sm s) :
    Calls Tryz.prog 5 #[va, vb, .agg #[.string p.name, .int .i64 p.v.ty, .int .i64 p.v.n, .string p.v.s], .string nm, .string s] w fun e w' => e = .returned (.bool true) ∧ Below w.heap.size w w' := by
  obtain ⟨A1, c1, rfl, hl1, hm1⟩ := hr.form
  obtain ⟨A2, c2, rfl, hl2, hm2⟩ := ho.form
  unfold maxLen at hm1 hm2
  have HT := Lib.hid hT
  have HG := Lib.hid hg
  have HR := Lib.hid hr
  have HO := Lib.hid ho
  have HP := Lib.hid hp
  have hB : Below w.heap.size w (w.alloc (.cells #[.string p.name, .int .i64 p.v.ty, .int .i64 p.v.n, .string p.v.s] 62)) := (Below.refl _ _).alloc (Nat.le_refl _) _
  have HX7 := Lib.hid (heap_alloc_new w (.cells #[.string p.name, .int .i64 p.v.ty, .int .i64 p.v.n, .string p.v.s] 62))
  have H3 := Lib.hid (fun k n wx hgw => same_any k n wx hgw)
  clear hT hg hr ho hp
  go_enter Tryz.func5, Tryz.ntmps5
  go_upto_region 1 with fail
  generalize w.alloc (.cells #[.string p.name, .int .i64 p.v.ty, .int .i64 p.v.n, .string p.v.s] 62) = W0 at *
  obtain ⟨q7, hq7⟩ : ∃ q, q = w.heap.size := ⟨_, rfl⟩
  have HQ7 := Lib.hid hq7
  clear hq7
  obtain ⟨e, he⟩ : ∃ e, e = recE r := ⟨_, rfl⟩
  have HE := Lib.hid he
  clear he
  have hx := rrecord_any r _ W0 (HR.out.below hB)
  rw [← HE.out] at hx
  -- one call is done: its contract hx; the new world w1
  go_wp2_with fail
  refine hx.mono ?_
  clear hx
  rintro e w1 ⟨rfl, hb⟩
  have hB := hB.trans (hb.mono hB.size)
  -- a box stands still: HX7: its fact
  have HX7 := Lib.hid ((hb.block _ (Array.getElem?_eq_some_iff.1 (HX7).out).1).trans (HX7).out)
  clear hb
  have hx := recCheck_any r _ w1 (HR.out.below hB)
  rw [← HE.out] at hx
  -- one call is done: its contract hx; the new world w2
  go_wp2_with fail
  refine hx.mono ?_
  clear hx
  rintro e w2 ⟨rfl, hb⟩
  have hB := hB.trans (hb.mono hB.size)
  -- a box stands still: HX7: its fact
  have HX7 := Lib.hid ((hb.block _ (Array.getElem?_eq_some_iff.1 (HX7).out).1).trans (HX7).out)
  clear hb
  have hx := H3.out e e w2 (HG.out.below hB)
  rw [beq_self_eq_true] at hx
  -- one call is done: its contract hx; the new world w3
  go_wp2_with fail
  refine hx.mono ?_
  clear hx
  rintro e w3 ⟨rfl, hb⟩
  have hB := hB.trans (hb.mono hB.size)
  -- a box stands still: HX7: its fact
  have HX7 := Lib.hid ((hb.block _ (Array.getElem?_eq_some_iff.1 (HX7).out).1).trans (HX7).out)
  clear hb
  -- what it has
  have hq14 : w.heap.size ≤ w3.heap.size := hB.size
  have hne14 : w.heap.size ≠ w3.heap.size := by have := (Array.getElem?_eq_some_iff.1 HX7.out).1; omega
  have ha4 : Below w3.heap.size w3 (w3.alloc (.cells #[.int .i64 0, .int .i64 0, .string ⟨#[]⟩] 43)) := (Below.refl _ _).alloc (Nat.le_refl _) _
  have HX14 := Lib.hid (heap_alloc_new w3 (.cells #[.int .i64 0, .int .i64 0, .string ⟨#[]⟩] 43))
  have hB := hB.trans (ha4.mono hB.size)
  have hb := ha4
  -- a box stands still: HX7: its fact
  have HX7 := Lib.hid ((hb.block _ (Array.getElem?_eq_some_iff.1 (HX7).out).1).trans (HX7).out)
  clear hb ha4
  go_upto_region 5 with fail
  generalize w3.alloc (.cells #[.int .i64 0, .int .i64 0, .string ⟨#[]⟩] 43) = w4 at *
  generalize w3.heap.size = q14 at *
  have hx := rat_any r nm _ w4 (HR.out.below hB)
  have HGP := Lib.hid (fun h => getE_parts (r := r) (nm := nm) h)
  have HCH := Lib.hid (fun h => (rec_ok (r := r) h).2.2)
  go_upto_if 43 with fail
  go_cut [13] (fun v wx => v = .int .i64 (getE r nm) ∧ Below w.heap.size w wx ∧ Hid (wx.heap[w.heap.size]? = some (.cells #[.string p.name, .int .i64 p.v.ty, .int .i64 p.v.n, .string p.v.s] 62 (0, 0))) ∧ Hid (wx.heap[q14]? = some (.cells #[.int .i64 (getV r nm).ty, .int .i64 (getV r nm).n, .string (getV r nm).s] 43 (0, 0))))
  case first =>
    as_aux_lemma =>
      by_cases h0 : e = 0
      · have h0b : (e == 0) = true := by simpa using h0
        have h0r : recE r = 0 := by rw [← HE.out]; exact h0
        cases hh : rhas r nm with
        | true =>
          obtain ⟨d, hd, e1, e2⟩ := (HGP.out h0r).1 hh
          have HG1 := Lib.hid (And.intro e1 e2)
          have hat : atI r nm = (rpos r nm : Int) := by rw [idx_prp (HCH.out h0r), hh]; rfl
          rw [hat] at hx
          have hil := (List.getElem?_eq_some_iff.1 hd).1
          obtain ⟨gb, oo, rfl, _, c0, c1, c2, c3⟩ := prp_at (HR.out.below hB) hd
          generalize rpos r nm = i at *
          have hil' : (i : Int) < (r.length : Int) := by omega
          have hi0 : ¬ (i : Int) < 0 := by omega
          have hi1 : (0 : Int) ≤ (i : Int) := by omega
          have y0 := block_cell HX14.out 0
          have y1 := block_cell HX14.out 1
          have y2 := block_cell HX14.out 2
          have f0 := block_free HX14.out 0
          have f1 := block_free HX14.out 1
          have f2 := block_free HX14.out 2
          have H0 := Lib.hid h0
          have HN14 := Lib.hid hne14
          clear h0 h0r hh hd hat e1 e2 HGP HCH hne14
          go_wp2_with fail
          refine hx.mono ?_
          clear hx
          rintro e5 w5 ⟨rfl, hw⟩
          have hw := hw.symm
          subst hw
          go_wp2_with fail
          go_meet
          exact ⟨by rw [HG1.out.1, H0.out], ((hB.setCell (p := ⟨q14, 0, none⟩) hq14 _).setCell (p := ⟨q14, 1, none⟩) hq14 _).setCell (p := ⟨q14, 2, none⟩) hq14 _, setCell_other (setCell_other (setCell_other HX7.out HN14.out _ _) HN14.out _ _) HN14.out _ _, by rw [HG1.out.2]; exact setCell_block (setCell_block (setCell_block HX14.out 0 _) 1 _) 2 _⟩
        | false =>
          obtain ⟨e1, e2⟩ := (HGP.out h0r).2 hh
          have HG1 := Lib.hid (And.intro e1 e2)
          have hat : atI r nm = -1 := by rw [idx_prp (HCH.out h0r), hh]; rfl
          rw [hat] at hx
          clear h0 h0r hh hat e1 e2 HGP HCH
          go_wp2_with fail
          refine hx.mono ?_
          clear hx
          rintro e5 w5 ⟨rfl, hw⟩
          have hw := hw.symm
          subst hw
          go_wp2_with fail
          go_meet
          exact ⟨by rw [HG1.out.1], hB, HX7, by rw [HG1.out.2]; exact HX14⟩
      · have h0b : (e == 0) = false := by simpa using h0
        have HG1 : Hid (getE r nm = e ∧ getV r nm = noVal) := by
          have h1 : ¬ recE r = 0 := by rw [← HE.out]; exact h0
          have h2 : getE r nm = recE r := by unfold getE; rw [if_neg h1]
          refine ⟨by rw [HE.out]; exact h2, ?_⟩
          unfold getV; rw [if_neg (by rw [h2]; exact h1)]
        have h0p := h0
        clear h0 hx
        go_wp2_with fail
        go_meet
        exact ⟨by rw [HG1.out.1], hB, HX7, by rw [HG1.out.2]; exact HX14⟩
  case rest =>
  obtain ⟨w5, hw5⟩ : ∃ x : World, x = wc := ⟨_, rfl⟩
  subst hw5
  clear HX7 HX14 hB hx HGP HCH
  obtain ⟨rfl, hB, HX7, HX14⟩ := hcut
  have hx := get_any r nm _ w5 (HR.out.below hB)
  generalize getE r nm = ge at *
  generalize getV r nm = gv at *
  go_wp2_with fail
  refine hx.mono ?_
  clear hx
  rintro e6 w6 ⟨rfl, hb⟩
  have hB := hB.trans (hb.mono hB.size)
  -- a box stands still: HX7: its fact
  have HX7 := Lib.hid ((hb.block _ (Array.getElem?_eq_some_iff.1 (HX7).out).1).trans (HX7).out)
  -- a box stands still: HX14: its fact
  have HX14 := Lib.hid ((hb.block _ (Array.getElem?_eq_some_iff.1 (HX14).out).1).trans (HX14).out)
  clear hb
  have hb := (Below.refl w6.heap.size w6).alloc (Nat.le_refl _) (.cells #[.int .i64 gv.ty, .int .i64 gv.n, .string gv.s] 43)
  have HX16 := Lib.hid (heap_alloc_new w6 (.cells #[.int .i64 gv.ty, .int .i64 gv.n, .string gv.s] 43))
  have hB := hB.trans (hb.mono hB.size)
  -- a box stands still: HX7: its fact
  have HX7 := Lib.hid ((hb.block _ (Array.getElem?_eq_some_iff.1 (HX7).out).1).trans (HX7).out)
  -- a box stands still: HX14: its fact
  have HX14 := Lib.hid ((hb.block _ (Array.getElem?_eq_some_iff.1 (HX14).out).1).trans (HX14).out)
  clear hb
  go_upto_region 11 with fail
  generalize w6.alloc (.cells #[.int .i64 gv.ty, .int .i64 gv.n, .string gv.s] 43) = w7 at *
  generalize w6.heap.size = q16 at *
  have hx := H3.out ge ge w7 (HG.out.below hB)
  rw [beq_self_eq_true] at hx
  -- one call is done: its contract hx; the new world w8
  go_wp2_with fail
  refine hx.mono ?_
  clear hx
  rintro e w8 ⟨rfl, hb⟩
  have hB := hB.trans (hb.mono hB.size)
  -- a box stands still: HX7: its fact
  have HX7 := Lib.hid ((hb.block _ (Array.getElem?_eq_some_iff.1 (HX7).out).1).trans (HX7).out)
  -- a box stands still: HX14: its fact
  have HX14 := Lib.hid ((hb.block _ (Array.getElem?_eq_some_iff.1 (HX14).out).1).trans (HX14).out)
  -- a box stands still: HX16: its fact
  have HX16 := Lib.hid ((hb.block _ (Array.getElem?_eq_some_iff.1 (HX16).out).1).trans (HX16).out)
  clear hb
  -- a property set
  have HSP := Lib.hid (fun h => rset_any r p _ w8 (HR.out.below hB) HP.out h)
  have z0 := block_cell HX7.out 0
  have z1 := block_cell HX7.out 1
  have z2 := block_cell HX7.out 2
  have z3 := block_cell HX7.out 3
  go_upto_if 65 with fail
  go_cut [13, 19] (fun v u wx => v = .int .i64 (setE r p) ∧ Below w8.heap.size w8 wx ∧ Hid (Sl prpL wx u (setR r p)))
  case first =>
    as_aux_lemma =>
      by_cases h0 : e = 0
      · have h0b : (e == 0) = true := by simpa using h0
        have hx := HSP.out (by rw [← HE.out]; exact h0)
        clear h0 HSP
        go_wp2_with fail
        refine hx.mono ?_
        clear hx
        rintro e9 w9 ⟨u, rfl, hu, hb⟩
        have HU := Lib.hid (hu.1.prps hu.2)
        clear hu
        go_wp2_with fail
        go_meet
        exact ⟨rfl, hb, HU⟩
      · have h0b : (e == 0) = false := by simpa using h0
        have HN : Hid (setE r p = e ∧ setR r p = []) := by
          have h1 : ¬ recE r = 0 := by rw [← HE.out]; exact h0
          have h2 : setE r p = recE r := by unfold setE; rw [if_neg h1]
          refine ⟨by rw [HE.out]; exact h2, ?_⟩
          unfold setR; rw [if_neg (by rw [h2]; exact h1)]
        have h0p := h0
        clear h0 HSP
        go_wp2_with fail
        go_meet
        exact ⟨by rw [HN.out.1], Below.refl _ _, by rw [HN.out.2]; exact Sl.nil 0 (Nat.zero_le _) none⟩
  case rest =>
  obtain ⟨w9, hw9⟩ : ∃ x : World, x = wc := ⟨_, rfl⟩
  subst hw9
  clear HSP z0 z1 z2 z3
  obtain ⟨rfl, hb, HU⟩ := hcut
  have hB := hB.trans (hb.mono hB.size)
  -- a box stands still: HX7: its fact
  have HX7 := Lib.hid ((hb.block _ (Array.getElem?_eq_some_iff.1 (HX7).out).1).trans (HX7).out)
  -- a box stands still: HX14: its fact
  have HX14 := Lib.hid ((hb.block _ (Array.getElem?_eq_some_iff.1 (HX14).out).1).trans (HX14).out)
  -- a box stands still: HX16: its fact
  have HX16 := Lib.hid ((hb.block _ (Array.getElem?_eq_some_iff.1 (HX16).out).1).trans (HX16).out)
  clear hb
  have z0 := block_cell HX7.out 0
  have z1 := block_cell HX7.out 1
  have z2 := block_cell HX7.out 2
  have z3 := block_cell HX7.out 3
  have hx := set_any r p _ w9 (HR.out.below hB) HP.out
  obtain ⟨A19, c19, rfl, _, _⟩ := HU.out.form
  generalize setE r p = se at *
  generalize setR r p = sr at *
  go_wp2_with fail
  refine hx.mono ?_
  clear hx z0 z1 z2 z3
  rintro e10 w10 ⟨u2, rfl, hu2, hb⟩
  have hB := hB.trans (hb.mono hB.size)
  have HU := Lib.hid (HU.out.below hb)
  have HU2 := Lib.hid hu2
  -- a box stands still: HX14: its fact
  have HX14 := Lib.hid ((hb.block _ (Array.getElem?_eq_some_iff.1 (HX14).out).1).trans (HX14).out)
  -- a box stands still: HX16: its fact
  have HX16 := Lib.hid ((hb.block _ (Array.getElem?_eq_some_iff.1 (HX16).out).1).trans (HX16).out)
  clear hb hu2 HX7
  obtain ⟨A20, c20, rfl, _, _⟩ := HU2.out.form
  have hx := H3.out se se w10 (HG.out.below hB)
  rw [beq_self_eq_true] at hx
  -- one call is done: its contract hx; the new world w11
  go_wp2_with fail
  refine hx.mono ?_
  clear hx
  rintro e w11 ⟨rfl, hb⟩
  have hB := hB.trans (hb.mono hB.size)
  -- a box stands still: HX14: its fact
  have HX14 := Lib.hid ((hb.block _ (Array.getElem?_eq_some_iff.1 (HX14).out).1).trans (HX14).out)
  -- a box stands still: HX16: its fact
  have HX16 := Lib.hid ((hb.block _ (Array.getElem?_eq_some_iff.1 (HX16).out).1).trans (HX16).out)
  have HU := Lib.hid (HU.out.below hb)
  have HU2 := Lib.hid (HU2.out.below hb)
  clear hb
  have hx := srecord_any sr sr _ _ w11 HU2.out HU.out
  rw [decide_eq_true rfl] at hx
  -- one call is done: its contract hx; the new world w12
  go_wp2_with fail
  refine hx.mono ?_
  clear hx
  rintro e w12 ⟨rfl, hb⟩
  have hB := hB.trans (hb.mono hB.size)
  -- a box stands still: HX14: its fact
  have HX14 := Lib.hid ((hb.block _ (Array.getElem?_eq_some_iff.1 (HX14).out).1).trans (HX14).out)
  -- a box stands still: HX16: its fact
  have HX16 := Lib.hid ((hb.block _ (Array.getElem?_eq_some_iff.1 (HX16).out).1).trans (HX16).out)
  clear hb HU HU2
  -- a property less
  have HRL := Lib.hid (fun h => (rec_ok (r := r) h).1)
  have HUE := Lib.hid (fun h => rUns_eq (r := r) h nm)
  have HSU := Lib.hid (fun h => runset_any r nm _ w12 (HR.out.below hB) h)
  go_upto_if 86 with fail
  go_cut [13, 19] (fun v u wx => v = .int .i64 (unsetE r nm) ∧ Below w12.heap.size w12 wx ∧ Hid (Sl prpL wx u (unsetR r nm)))
  case first =>
    as_aux_lemma =>
      by_cases h0 : e = 0
      · have h0b : (e == 0) = true := by simpa using h0
        have h0r : recE r = 0 := by rw [← HE.out]; exact h0
        have hx := HSU.out (by have := HRL.out h0r; omega)
        cases hh : rhas r nm with
        | true =>
          obtain ⟨e1, e2, e3⟩ := (HUE.out h0r).1 hh
          rw [decide_eq_true e3, e1] at hx
          have HN : Hid (unsetE r nm = e) := by unfold Hid; rw [e2, h0]
          clear h0 h0r hh e1 e2 e3 HSU HUE HRL
          go_wp2_with fail
          refine hx.mono ?_
          clear hx
          rintro e9 w9 ⟨u, rfl, hu, hb⟩
          have HU := Lib.hid (hu.1.prps hu.2)
          clear hu
          go_wp2_with fail
          go_meet
          exact ⟨by rw [HN.out], hb, HU⟩
        | false =>
          obtain ⟨e1, e2, e3⟩ := (HUE.out h0r).2 hh
          rw [decide_eq_false e3] at hx
          have HN := Lib.hid (And.intro e1 e2)
          clear h0 h0r hh e1 e2 e3 HSU HUE HRL
          go_wp2_with fail
          refine hx.mono ?_
          clear hx
          rintro e9 w9 ⟨u, rfl, _, hb⟩
          go_wp2_with fail
          go_meet
          exact ⟨by rw [HN.out.1], hb, by rw [HN.out.2]; exact Sl.nil 0 (Nat.zero_le _) none⟩
      · have h0b : (e == 0) = false := by simpa using h0
        have HN : Hid (unsetE r nm = e ∧ unsetR r nm = []) := by
          have h1 : ¬ recE r = 0 := by rw [← HE.out]; exact h0
          have h2 : unsetE r nm = recE r := by unfold unsetE; rw [if_neg h1]
          refine ⟨by rw [HE.out]; exact h2, ?_⟩
          unfold unsetR; rw [if_neg (by rw [h2]; exact h1)]
        have h0p := h0
        clear h0 HSU HUE HRL
        go_wp2_with fail
        go_meet
        exact ⟨by rw [HN.out.1], Below.refl _ _, by rw [HN.out.2]; exact Sl.nil 0 (Nat.zero_le _) none⟩
  case rest =>
  obtain ⟨w13, hw13⟩ : ∃ x : World, x = wc := ⟨_, rfl⟩
  subst hw13
  clear HSU HUE HRL
  obtain ⟨rfl, hb, HU⟩ := hcut
  have hB := hB.trans (hb.mono hB.size)
  -- the two boxes stand still
  -- a box stands still: HX14: its fact
  have HX14 := Lib.hid ((hb.block _ (Array.getElem?_eq_some_iff.1 (HX14).out).1).trans (HX14).out)
  -- a box stands still: HX16: its fact
  have HX16 := Lib.hid ((hb.block _ (Array.getElem?_eq_some_iff.1 (HX16).out).1).trans (HX16).out)
  clear hb
  have hx := unset_own r nm _ w13 (HR.out.below hB)
  obtain ⟨A19, c19, rfl, _, _⟩ := HU.out.form
  generalize unsetE r nm = ue at *
  generalize unsetR r nm = ur at *
  go_wp2_with fail
  refine hx.mono ?_
  clear hx
  rintro e10 w14 ⟨u2, rfl, hu2, hb⟩
  have hB := hB.trans (hb.mono hB.size)
  have HU := Lib.hid (HU.out.below hb)
  have HU2 := Lib.hid (hu2.1.prps hu2.2)
  -- the two boxes stand still
  -- a box stands still: HX14: its fact
  have HX14 := Lib.hid ((hb.block _ (Array.getElem?_eq_some_iff.1 (HX14).out).1).trans (HX14).out)
  -- a box stands still: HX16: its fact
  have HX16 := Lib.hid ((hb.block _ (Array.getElem?_eq_some_iff.1 (HX16).out).1).trans (HX16).out)
  clear hb hu2
  obtain ⟨A20, c20, rfl, _, _⟩ := HU2.out.form
  have hx := H3.out ue ue w14 (HG.out.below hB)
  rw [beq_self_eq_true] at hx
  -- one call is done: its contract hx; the new world w15
  go_wp2_with fail
  refine hx.mono ?_
  clear hx
  rintro e w15 ⟨rfl, hb⟩
  have hB := hB.trans (hb.mono hB.size)
  -- the two boxes stand still
  -- a box stands still: HX14: its fact
  have HX14 := Lib.hid ((hb.block _ (Array.getElem?_eq_some_iff.1 (HX14).out).1).trans (HX14).out)
  -- a box stands still: HX16: its fact
  have HX16 := Lib.hid ((hb.block _ (Array.getElem?_eq_some_iff.1 (HX16).out).1).trans (HX16).out)
  have HU := Lib.hid (HU.out.below hb)
  have HU2 := Lib.hid (HU2.out.below hb)
  clear hb
  have hx := srecord_any ur ur _ _ w15 HU2.out HU.out
  rw [decide_eq_true rfl] at hx
  -- one call is done: its contract hx; the new world w16
  go_wp2_with fail
  refine hx.mono ?_
  clear hx
  rintro e w16 ⟨rfl, hb⟩
  have hB := hB.trans (hb.mono hB.size)
  -- the two boxes stand still
  -- a box stands still: HX14: its fact
  have HX14 := Lib.hid ((hb.block _ (Array.getElem?_eq_some_iff.1 (HX14).out).1).trans (HX14).out)
  -- a box stands still: HX16: its fact
  have HX16 := Lib.hid ((hb.block _ (Array.getElem?_eq_some_iff.1 (HX16).out).1).trans (HX16).out)
  clear hb HU HU2
  -- one record with another one
  have hx := rrecord_any o _ w16 (HO.out.below hB)
  go_upto_if 109 with fail
  go_cut [13] (fun v wx => v = .int .i64 (if recE r = 0 then recE o else recE r) ∧ Below w16.heap.size w16 wx)
  case first =>
    as_aux_lemma =>
      by_cases h0 : e = 0
      · have h0b : (e == 0) = true := by simpa using h0
        have HN : Hid ((if recE r = 0 then recE o else recE r) = recE o) := by unfold Hid; rw [if_pos (by rw [← HE.out]; exact h0)]
        clear h0
        go_wp2_with fail
        refine hx.mono ?_
        clear hx
        rintro e9 w17 ⟨rfl, hb⟩
        go_wp2_with fail
        go_meet
        exact ⟨by rw [HN.out], hb⟩
      · have h0b : (e == 0) = false := by simpa using h0
        have HN : Hid ((if recE r = 0 then recE o else recE r) = e) := by unfold Hid; rw [← HE.out, if_neg h0]
        have h0p := h0
        clear h0 hx
        go_wp2_with fail
        go_meet
        exact ⟨by rw [HN.out], Below.refl _ _⟩
  case rest =>
  obtain ⟨w17, hw17⟩ : ∃ x : World, x = wc := ⟨_, rfl⟩
  subst hw17
  clear hx
  obtain ⟨rfl, hb⟩ := hcut
  have hB := hB.trans (hb.mono hB.size)
  -- the two boxes stand still
  -- a box stands still: HX14: its fact
  have HX14 := Lib.hid ((hb.block _ (Array.getElem?_eq_some_iff.1 (HX14).out).1).trans (HX14).out)
  -- a box stands still: HX16: its fact
  have HX16 := Lib.hid ((hb.block _ (Array.getElem?_eq_some_iff.1 (HX16).out).1).trans (HX16).out)
  clear hb
  obtain ⟨f0, hf0⟩ : ∃ f, f = if recE r = 0 then recE o else recE r := ⟨_, rfl⟩
  rw [← hf0]
  have HF0 := Lib.hid hf0
  clear hf0
  have HSR := Lib.hid (fun (u : List Prp) (x : Prp) (h : setE u x = 0) => (set_back h).1)
  have HJ1 := Lib.hid (fun h1 h2 => joinE_ok (r := r) (o := o) h1 h2)
  have HJ2 := Lib.hid (fun h => joinE_no (r := r) (o := o) h)
  have HJ3 := Lib.hid (fun h => joinE_bad (r := r) (o := o) h)
  have HOL : Hid (recE o = 0 → o.length ≤ 8) := fun h => (rec_ok h).1
  have HF1 : Hid (f0 = 0 → recE r = 0 ∧ recE o = 0) := fun h => by
    have h1 := HF0.out
    rw [h] at h1
    by_cases h2 : recE r = 0
    · rw [if_pos h2] at h1; exact ⟨h2, h1.symm⟩
    · rw [if_neg h2] at h1; exact absurd h1.symm h2
  have HF2 : Hid (f0 ≠ 0 → joinE r o = f0) := fun h => by
    rw [HF0.out] at h ⊢; exact HJ2.out h
  clear HF0 HJ2
  go_upto_block 0 with fail
  go_cut [13, 19] (fun v u wx => ∃ ww, v = .int .i64 (joinE r o) ∧ Below w17.heap.size w17 wx ∧ Hid (Sl prpL wx u ww) ∧ Hid (joinE r o = 0 → ww = joinR r o))
  case first =>
    as_aux_lemma =>
      go_wp2_with fail
      go_loopw [13, 19, 27] (fun x13 x19 x27 wr => ∃ (k : Nat) (u : List Prp) (f : Int), k ≤ o.length ∧ x27 = .int .i64 k ∧ x13 = .int .i64 f ∧ Below w17.heap.size w17 wr ∧ Hid (Sl prpL wr x19 u) ∧ Hid (f = 0 → recE u = 0 ∧ recE r = 0 ∧ recE o = 0 ∧ joinG r o = joinG u (o.drop k)) ∧ Hid (f ≠ 0 → joinE r o = f)) (fun _ _ x27 _ => o.length - (intOf x27).toNat)
      case atStart => exact ⟨0, r, f0, Nat.zero_le _, rfl, rfl, Below.refl _ _, HR.out.below hB, fun h => ⟨(HF1.out h).1, (HF1.out h).1, (HF1.out h).2, by rw [List.drop_zero]⟩, HF2.out⟩
      case round =>
        obtain ⟨k, u, f, hk, rfl, rfl, hbr, HS, HG1, HG2⟩ := hrel
        obtain ⟨wo, hwo⟩ : ∃ wo : World, wo = wr := ⟨_, rfl⟩
        subst hwo
        obtain ⟨Au, cu, rfl, _, _⟩ := HS.out.form
        by_cases hf : f = 0
        case neg =>
          have hfb : (f == 0) = false := by simpa using hf
          have HJ := Lib.hid (HG2.out hf)
          have HFN := Lib.hid hf
          have hfp := hf
          clear hf HG1 HG2
          by_cases hlt : k < o.length
          · have hlt' : (k : Int) < (o.length : Int) := by omega
            go_wp2_with fail
            go_meet
            exact ⟨u, by rw [HJ.out], hbr, HS, fun h => absurd (HJ.out.symm.trans h) HFN.out⟩
          · have hlt' : ¬ (k : Int) < (o.length : Int) := by omega
            go_wp2_with fail
            go_meet
            exact ⟨u, by rw [HJ.out], hbr, HS, fun h => absurd (HJ.out.symm.trans h) HFN.out⟩
        subst hf
        obtain ⟨g1, g2, g3, g4⟩ := HG1.out rfl
        have hkb : k ≤ 8 := by have := HOL.out g3; omega
        have HJA := Lib.hid (HJ1.out g2 g3)
        by_cases hlt : k < o.length
        · obtain ⟨x, hx0⟩ : ∃ d, o[k]? = some d := ⟨_, List.getElem?_eq_getElem hlt⟩
          have hlt' : (k : Int) < (o.length : Int) := by omega
          have hBo := hB.trans (hbr.mono hB.size)
          obtain ⟨gb, oo, rfl, hxok, c0, c1', c2', c3⟩ := prp_at (HO.out.below hBo) hx0
          have hx := rset_any u x _ wo HS.out hxok g1
          have HGD : Hid (joinG r o = if setE u x = 0 then joinG (setR u x) (o.drop (k + 1)) else (setE u x, [])) := by
            unfold Hid; rw [g4, drop_consP hx0, joinG_cons]
          have HSX := Lib.hid (fun h => HSR.out u x h)
          have HKP := Lib.hid (And.intro g2 g3)
          clear hx0 hxok g1 g2 g3 g4 HG1 HG2
          go_wp2_with fail
          refine hx.mono ?_
          clear hx c0 c1' c2' c3
          rintro e9 w18 ⟨v18, rfl, hv18, hb⟩
          have HV18 := Lib.hid (hv18.1.prps hv18.2)
          have hbx := hbr.trans (hb.mono hbr.size)
          have HN1 : Hid (setE u x = 0 → recE (setR u x) = 0 ∧ recE r = 0 ∧ recE o = 0 ∧ joinG r o = joinG (setR u x) (o.drop (k + 1))) := fun h => ⟨HSX.out h, HKP.out.1, HKP.out.2, by rw [HGD.out, if_pos h]⟩
          have HN2 : Hid (setE u x ≠ 0 → joinE r o = setE u x) := fun h => by rw [HJA.out.1, HGD.out, if_neg h]
          clear hv18 hb HS HGD HSX HJA
          go_wp2_with fail
          go_roundw
          case rel => first | exact ⟨k + 1, setR u x, setE u x, by omega, by go_num, rfl, hbx, HV18, HN1, HN2⟩ | ((repeat apply Exists.intro); exact ⟨⟨k + 1, setR u x, setE u x, by omega, by go_num, rfl, hbx, HV18, HN1, HN2⟩, rfl⟩)
          case measure => simp [intOf]; omega
        · obtain rfl : k = o.length := by omega
          have HN : Hid (joinE r o = 0 ∧ joinR r o = u) := by
            unfold Hid; rw [HJA.out.1, HJA.out.2, g4, List.drop_length]; exact ⟨rfl, rfl⟩
          clear g1 g2 g3 g4 HG1 HG2 HJA
          go_wp2_with fail
          go_meet
          exact ⟨u, by rw [HN.out.1], hbr, HS, fun _ => HN.out.2.symm⟩
  case rest =>
  obtain ⟨w19, hw19⟩ : ∃ x : World, x = wc := ⟨_, rfl⟩
  subst hw19
  clear HSR HJ1 HF1 HF2 HOL
  obtain ⟨ww, rfl, hb, HU, HUJ⟩ := hcut
  have hB := hB.trans (hb.mono hB.size)
  -- the two boxes stand still
  -- a box stands still: HX14: its fact
  have HX14 := Lib.hid ((hb.block _ (Array.getElem?_eq_some_iff.1 (HX14).out).1).trans (HX14).out)
  -- a box stands still: HX16: its fact
  have HX16 := Lib.hid ((hb.block _ (Array.getElem?_eq_some_iff.1 (HX16).out).1).trans (HX16).out)
  clear hb
  obtain ⟨je, hje⟩ : ∃ x, x = joinE r o := ⟨_, rfl⟩
  obtain ⟨jr, hjr⟩ : ∃ x, x = joinR r o := ⟨_, rfl⟩
  have HJO := Lib.hid (fun wx (h : Below w.heap.size w wx) => join_any r o (.slice A1 r.length c1) (.slice A2 o.length c2) wx (HR.out.below h) (HO.out.below h))
  rw [← hje] at HUJ HJ3 HJO
  rw [← hjr] at HUJ HJ3 HJO
  rw [← hje]
  clear hje hjr
  obtain ⟨A19b, c19b, rfl, _, _⟩ := HU.out.form
  go_upto_if 133 with fail
  go_cut [19] (fun u wx => wx = w19 ∧ Hid (Sl prpL wx u jr))
  case first =>
    as_aux_lemma =>
      by_cases hj : je = 0
      · have hjb : (je != 0) = false := by simpa using hj
        have HW := Lib.hid (HUJ.out hj)
        clear hj
        go_wp2_with fail
        go_meet
        exact ⟨rfl, by rw [← HW.out]; exact HU⟩
      · have hjb : (je != 0) = true := by simpa using hj
        have HW := Lib.hid (HJ3.out hj)
        clear hj
        go_wp2_with fail
        go_meet
        exact ⟨rfl, by rw [HW.out]; exact Sl.nil 0 (Nat.zero_le _) none⟩
  case rest =>
  clear HU HUJ HJ3
  obtain ⟨rfl, HU⟩ := hcut
  obtain ⟨w20, hw20⟩ : ∃ x : World, x = wc := ⟨_, rfl⟩
  subst hw20
  obtain ⟨A19, c19, rfl, _, _⟩ := HU.out.form
  have hx := HJO.out w20 hB
  go_wp2_with fail
  refine hx.mono ?_
  clear hx HJO
  rintro e10 w21 ⟨u2, rfl, hu2, hb⟩
  have hB := hB.trans (hb.mono hB.size)
  have HU := Lib.hid (HU.out.below hb)
  have HU2 := Lib.hid hu2
  -- the two boxes stand still
  -- a box stands still: HX14: its fact
  have HX14 := Lib.hid ((hb.block _ (Array.getElem?_eq_some_iff.1 (HX14).out).1).trans (HX14).out)
  -- a box stands still: HX16: its fact
  have HX16 := Lib.hid ((hb.block _ (Array.getElem?_eq_some_iff.1 (HX16).out).1).trans (HX16).out)
  clear hb hu2
  obtain ⟨A20, c20, rfl, _, _⟩ := HU2.out.form
  have hx := H3.out je je w21 (HG.out.below hB)
  rw [beq_self_eq_true] at hx
  -- one call is done: its contract hx; the new world w22
  go_wp2_with fail
  refine hx.mono ?_
  clear hx
  rintro e w22 ⟨rfl, hb⟩
  have hB := hB.trans (hb.mono hB.size)
  -- the two boxes stand still
  -- a box stands still: HX14: its fact
  have HX14 := Lib.hid ((hb.block _ (Array.getElem?_eq_some_iff.1 (HX14).out).1).trans (HX14).out)
  -- a box stands still: HX16: its fact
  have HX16 := Lib.hid ((hb.block _ (Array.getElem?_eq_some_iff.1 (HX16).out).1).trans (HX16).out)
  have HU := Lib.hid (HU.out.below hb)
  have HU2 := Lib.hid (HU2.out.below hb)
  clear hb
  have hx := srecord_any jr jr _ _ w22 HU2.out HU.out
  rw [decide_eq_true rfl] at hx
  -- one call is done: its contract hx; the new world w23
  go_wp2_with fail
  refine hx.mono ?_
  clear hx
  rintro e w23 ⟨rfl, hb⟩
  have hB := hB.trans (hb.mono hB.size)
  -- the two boxes stand still
  -- a box stands still: HX14: its fact
  have HX14 := Lib.hid ((hb.block _ (Array.getElem?_eq_some_iff.1 (HX14).out).1).trans (HX14).out)
  -- a box stands still: HX16: its fact
  have HX16 := Lib.hid ((hb.block _ (Array.getElem?_eq_some_iff.1 (HX16).out).1).trans (HX16).out)
  clear hb HU HU2
  -- as text
  have HSH := Lib.hid (fun h => rshowRec_any r _ w23 (HR.out.below hB) h)
  go_upto_if 147 with fail
  go_cut [30] (fun v wx => v = .string (bs (if e = 0 then recT r else [])) ∧ Below w23.heap.size w23 wx)
  case first =>
    as_aux_lemma =>
      by_cases h0 : e = 0
      · have h0b : (e == 0) = true := by simpa using h0
        have HN : Hid (bs (if e = 0 then recT r else []) = bs (recT r)) := by unfold Hid; rw [if_pos h0]
        have hx := HSH.out (by rw [← HE.out]; exact h0)
        clear h0 HSH
        go_wp2_with fail
        refine hx.mono ?_
        clear hx
        rintro e9 w24 ⟨rfl, hb⟩
        go_wp2_with fail
        go_meet
        exact ⟨by rw [HN.out], hb⟩
      · have h0b : (e == 0) = false := by simpa using h0
        have HN : Hid (bs (if e = 0 then recT r else []) = bs []) := by unfold Hid; rw [if_neg h0]
        have h0p := h0
        clear h0 HSH
        go_wp2_with fail
        go_meet
        exact ⟨by rw [HN.out]; rfl, Below.refl _ _⟩
  case rest =>
  obtain ⟨w24, hw24⟩ : ∃ x : World, x = wc := ⟨_, rfl⟩
  subst hw24
  clear HSH
  obtain ⟨rfl, hb⟩ := hcut
  have hB := hB.trans (hb.mono hB.size)
  -- the two boxes stand still
  -- a box stands still: HX14: its fact
  have HX14 := Lib.hid ((hb.block _ (Array.getElem?_eq_some_iff.1 (HX14).out).1).trans (HX14).out)
  -- a box stands still: HX16: its fact
  have HX16 := Lib.hid ((hb.block _ (Array.getElem?_eq_some_iff.1 (HX16).out).1).trans (HX16).out)
  clear hb
  have hx := rprint_any r _ w24 (HR.out.below hB) (HT.out.below hB).toTxP
  rw [← HE.out] at hx
  generalize bs (if e = 0 then recT r else []) = want at *
  -- one call is done: its contract hx; the new world w25
  go_wp2_with fail
  refine hx.mono ?_
  clear hx
  rintro e w25 ⟨rfl, hb⟩
  have hB := hB.trans (hb.mono hB.size)
  -- the two boxes stand still
  -- a box stands still: HX14: its fact
  have HX14 := Lib.hid ((hb.block _ (Array.getElem?_eq_some_iff.1 (HX14).out).1).trans (HX14).out)
  -- a box stands still: HX16: its fact
  have HX16 := Lib.hid ((hb.block _ (Array.getElem?_eq_some_iff.1 (HX16).out).1).trans (HX16).out)
  clear hb
  have hx := H3.out e e w25 (HG.out.below hB)
  rw [beq_self_eq_true] at hx
  -- one call is done: its contract hx; the new world w26
  go_wp2_with fail
  refine hx.mono ?_
  clear hx
  rintro e w26 ⟨rfl, hb⟩
  have hB := hB.trans (hb.mono hB.size)
  -- the two boxes stand still
  -- a box stands still: HX14: its fact
  have HX14 := Lib.hid ((hb.block _ (Array.getElem?_eq_some_iff.1 (HX14).out).1).trans (HX14).out)
  -- a box stands still: HX16: its fact
  have HX16 := Lib.hid ((hb.block _ (Array.getElem?_eq_some_iff.1 (HX16).out).1).trans (HX16).out)
  clear hb
  -- a text as one
  have HRP := Lib.hid (fun wx hw => rparse_any s hs wx hw)
  have hx := rreadRec_any s hs w26
  obtain ⟨fe, hfe⟩ : ∃ x, x = readRE s.data.toList := ⟨_, rfl⟩
  obtain ⟨rv, hrv⟩ : ∃ x, x = readRV s.data.toList := ⟨_, rfl⟩
  rw [← hfe, ← hrv] at hx HRP
  clear hfe hrv
  go_wp2_with fail
  refine hx.mono ?_
  clear hx
  rintro e9 w27 ⟨A19, c19, rfl, hu, hb⟩
  have hB := hB.trans (hb.mono hB.size)
  have HU := Lib.hid (hu.1.prps hu.2)
  -- the two boxes stand still
  -- a box stands still: HX14: its fact
  have HX14 := Lib.hid ((hb.block _ (Array.getElem?_eq_some_iff.1 (HX14).out).1).trans (HX14).out)
  -- a box stands still: HX16: its fact
  have HX16 := Lib.hid ((hb.block _ (Array.getElem?_eq_some_iff.1 (HX16).out).1).trans (HX16).out)
  clear hb hu
  have hx := HRP.out w27 (HT.out.below hB)
  go_wp2_with fail
  refine hx.mono ?_
  clear hx HRP
  rintro e10 w28 ⟨A20, c20, rfl, hu2, hb⟩
  have hB := hB.trans (hb.mono hB.size)
  have HU := Lib.hid (HU.out.below hb)
  have HU2 := Lib.hid hu2
  -- the two boxes stand still
  -- a box stands still: HX14: its fact
  have HX14 := Lib.hid ((hb.block _ (Array.getElem?_eq_some_iff.1 (HX14).out).1).trans (HX14).out)
  -- a box stands still: HX16: its fact
  have HX16 := Lib.hid ((hb.block _ (Array.getElem?_eq_some_iff.1 (HX16).out).1).trans (HX16).out)
  clear hb hu2
  have hx := H3.out fe fe w28 (HG.out.below hB)
  rw [beq_self_eq_true] at hx
  -- one call is done: its contract hx; the new world w29
  go_wp2_with fail
  refine hx.mono ?_
  clear hx
  rintro e w29 ⟨rfl, hb⟩
  have hB := hB.trans (hb.mono hB.size)
  -- the two boxes stand still
  -- a box stands still: HX14: its fact
  have HX14 := Lib.hid ((hb.block _ (Array.getElem?_eq_some_iff.1 (HX14).out).1).trans (HX14).out)
  -- a box stands still: HX16: its fact
  have HX16 := Lib.hid ((hb.block _ (Array.getElem?_eq_some_iff.1 (HX16).out).1).trans (HX16).out)
  have HU := Lib.hid (HU.out.below hb)
  have HU2 := Lib.hid (HU2.out.below hb)
  clear hb
  have hx := srecord_any rv rv _ _ w29 HU2.out HU.out
  rw [decide_eq_true rfl] at hx
  -- one call is done: its contract hx; the new world w30
  go_wp2_with fail
  refine hx.mono ?_
  clear hx
  rintro e w30 ⟨rfl, hb⟩
  have hB := hB.trans (hb.mono hB.size)
  -- the two boxes stand still
  -- a box stands still: HX14: its fact
  have HX14 := Lib.hid ((hb.block _ (Array.getElem?_eq_some_iff.1 (HX14).out).1).trans (HX14).out)
  -- a box stands still: HX16: its fact
  have HX16 := Lib.hid ((hb.block _ (Array.getElem?_eq_some_iff.1 (HX16).out).1).trans (HX16).out)
  clear hb HU HU2
  have z0 := block_cell HX16.out 0
  have z1 := block_cell HX16.out 1
  have z2 := block_cell HX16.out 2
  have u0 := block_cell HX14.out 0
  have u1 := block_cell HX14.out 1
  have u2 := block_cell HX14.out 2
  have hww : (want.toList == want.toList) = true := by simp
  have heq : ∀ wx : World, (binOp .eql 43 (.agg #[.int .i64 gv.ty, .int .i64 gv.n, .string gv.s]) (.agg #[.int .i64 gv.ty, .int .i64 gv.n, .string gv.s])).run Tryz.prog wx = .ok (.bool true) wx := fun wx => by rw [pval_eql]; simp
  have hgd := pval_guard
  go_wp2_with fail
  go_ret
  exact ⟨rfl, hB⟩
end Go.Proofs.YtdmpkgiijddcdaaGreatDoor
