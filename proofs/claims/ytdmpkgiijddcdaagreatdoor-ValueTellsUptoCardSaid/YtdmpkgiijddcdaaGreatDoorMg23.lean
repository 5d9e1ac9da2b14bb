/- Parts: VTel. -/
import Derived.Test.YtdmpkgiijddcdaaGreatDoorMg11
import Derived.Test.YtdmpkgiijddcdaaGreatDoorMg12
import Derived.Test.YtdmpkgiijddcdaaGreatDoorMg17
import Derived.Test.YtdmpkgiijddcdaaGreatDoorMg18
import Derived.Test.YtdmpkgiijddcdaaGreatDoorMg19
import Derived.Test.YtdmpkgiijddcdaaGreatDoorMg21
import Derived.Test.YtdmpkgiijddcdaaGreatDoorMg22
import Derived.Deep.DeepCutAuto
/- The law ValueTells, of the walks' contracts. Conditions: what the library's texts lean on (TxOk); the variable of errors.As; the texts are not too long. -/
namespace Go.Proofs.YtdmpkgiijddcdaaGreatDoor
open Go Go.RowKit

theorem pval_eql (x y : Val) (w : World) : (binOp .eql 43 (.agg #[.int .i64 x.ty, .int .i64 x.n, .string x.s]) (.agg #[.int .i64 y.ty, .int .i64 y.n, .string y.s])).run Tryz.prog w = .ok (.bool (decide (x = y))) w := by
  rw [run_eql_struct, show (10000 : Nat) = 9998 + 2 from rfl, pval_same]; rfl
theorem pval_guard (op : BinOp) (a b : Operand) (xs ys : Array Value) (w : World) : (eqGuard op 43 a b (.agg xs) (.agg ys)).run Tryz.prog w = .ok () w := run_eqGuard_agg w op 43 a b xs ys (by kernel_rfl)
/-- Two values, each in its box. -/
def BoxTwo (q : Nat) (a b : Val) (w : World) : Prop :=
  w.heap[q]? = some (.cells #[.int .i64 a.ty, .int .i64 a.n, .string a.s] 43 (0, 0)) ∧ w.heap[q + 1]? = some (.cells #[.int .i64 b.ty, .int .i64 b.n, .string b.s] 43 (0, 0))
theorem BoxTwo.below {q : Nat} {a b : Val} {w w' : World} (h : BoxTwo q a b w) (hb : Below w.heap.size w w') : BoxTwo q a b w' :=
  ⟨(hb.block _ (Array.getElem?_eq_some_iff.1 h.1).1).trans h.1, (hb.block _ (Array.getElem?_eq_some_iff.1 h.2).1).trans h.2⟩
set_option maxRecDepth 100000 in
set_option maxHeartbeats 16000000 in
theorem valueTells_any (a b : Val) (s : ByteArray) (w : World) (hT : TxOk w) (hg : GlobOk w) (ha : a.ok) (hb : b.ok) (hs : Sm s) :
    Calls Tryz.prog 4 #[.agg #[.int .i64 a.ty, .int .i64 a.n, .string a.s], .agg #[.int .i64 b.ty, .int .i64 b.n, .string b.s], .string s] w fun e w' => e = .returned (.bool true) ∧ Below w.heap.size w w' := by
  have HT := Lib.hid hT
  have HG := Lib.hid hg
  have hB : Below w.heap.size w ((w.alloc (.cells #[.int .i64 a.ty, .int .i64 a.n, .string a.s] 43)).alloc (.cells #[.int .i64 b.ty, .int .i64 b.n, .string b.s] 43)) := ((Below.refl _ _).alloc (Nat.le_refl _) _).alloc (by simp) _
  have HB : Hid (BoxTwo w.heap.size a b ((w.alloc (.cells #[.int .i64 a.ty, .int .i64 a.n, .string a.s] 43)).alloc (.cells #[.int .i64 b.ty, .int .i64 b.n, .string b.s] 43))) := by
    refine ⟨?_, heap_at_new _ _ _ (by simp)⟩
    have h1 : Below (w.alloc (.cells #[.int .i64 a.ty, .int .i64 a.n, .string a.s] 43)).heap.size (w.alloc (.cells #[.int .i64 a.ty, .int .i64 a.n, .string a.s] 43)) ((w.alloc (.cells #[.int .i64 a.ty, .int .i64 a.n, .string a.s] 43)).alloc (.cells #[.int .i64 b.ty, .int .i64 b.n, .string b.s] 43)) := (Below.refl _ _).alloc (Nat.le_refl _) _
    exact (h1.block _ (by simp)).trans (heap_alloc_new _ _)
  have H1 := Lib.hid (fun wx => rvalue_any a wx ha.2.2)
  have H2 := Lib.hid (fun wx => check_any a ha wx)
  have H3 := Lib.hid (fun k n wx hgw => same_any k n wx hgw)
  have H4 := Lib.hid (fun h0 wx => rshow_any a h0 wx)
  have H5 := Lib.hid (fun wx hw => vprint_any a ha wx hw)
  have H6 := Lib.hid (fun wx => rread_any s hs wx)
  have H7 := Lib.hid (fun wx hw => vparse_any s hs wx hw)
  have H8 := Lib.hid (fun wx => rvalue_any b wx hb.2.2)
  have H9 := Lib.hid (fun wx => rorder_any a b wx)
  have H10 := Lib.hid (fun wx => vcompare_any a b ha hb wx)
  have H11 := Lib.hid (fun wx => name_any s wx hs)
  have H12 := Lib.hid (fun wx => rname_any s wx hs)
  have HC : Hid (cmpE2 a b = (if valE a = 0 then (if valE b = 0 then (if a.ty = b.ty then 0 else 8) else valE b) else valE a) ∧ cmpV2 a b = if cmpE2 a b = 0 then ordV a b else 0) := ⟨rfl, rfl⟩
  obtain ⟨q, hq⟩ : ∃ q, q = w.heap.size := ⟨_, rfl⟩
  clear hT hg ha hb hs
  go_enter Tryz.func4, Tryz.ntmps4
  go_upto_region 1 with fail
  generalize hW0 : (w.alloc (.cells #[.int .i64 a.ty, .int .i64 a.n, .string a.s] 43)).alloc (.cells #[.int .i64 b.ty, .int .i64 b.n, .string b.s] 43) = W0 at *
  clear hW0
  have x0 := block_cell HB.out.1 0
  have x1 := block_cell HB.out.1 1
  have x2 := block_cell HB.out.1 2
  have y0 := block_cell HB.out.2 0
  have y1 := block_cell HB.out.2 1
  have y2 := block_cell HB.out.2 2
  have hx := H1.out W0
  -- one call is done: its contract hx; the new world w1
  go_wp2_with fail
  refine hx.mono ?_
  clear hx
  rintro e w1 ⟨rfl, hb⟩
  have hB := hB.trans (hb.mono hB.size)
  have HB := Lib.hid (HB.out.below hb)
  clear hb
  have x0 := block_cell HB.out.1 0
  have x1 := block_cell HB.out.1 1
  have x2 := block_cell HB.out.1 2
  have y0 := block_cell HB.out.2 0
  have y1 := block_cell HB.out.2 1
  have y2 := block_cell HB.out.2 2
  have hx := H2.out w1
  -- one call is done: its contract hx; the new world w2
  go_wp2_with fail
  refine hx.mono ?_
  clear hx
  rintro e w2 ⟨rfl, hb⟩
  have hB := hB.trans (hb.mono hB.size)
  have HB := Lib.hid (HB.out.below hb)
  clear hb
  have hx := H3.out (valE a) (valE a) w2 (HG.out.below hB)
  rw [beq_self_eq_true] at hx
  -- one call is done: its contract hx; the new world w3
  go_wp2_with fail
  refine hx.mono ?_
  clear hx
  rintro e w3 ⟨rfl, hb⟩
  have hB := hB.trans (hb.mono hB.size)
  have HB := Lib.hid (HB.out.below hb)
  clear hb
  clear H1 H2
  generalize hea : valE a = ea at *
  have HEA := Lib.hid hea
  clear hea
  -- the value as text
  go_upto_if 28 with fail
  go_cut [9] (fun v wx => v = .string (bs (if ea = 0 then showL a else [])) ∧ Below w.heap.size w wx ∧ Hid (BoxTwo w.heap.size a b wx))
  case first =>
    by_cases h0 : ea = 0
    · have h0b : (ea == 0) = true := by simpa using h0
      have HE : Hid (bs (if ea = 0 then showL a else []) = bs (showL a)) := by unfold Hid; rw [if_pos h0]
      have hx := H4.out h0 w3
      have x0 := block_cell HB.out.1 0
      have x1 := block_cell HB.out.1 1
      have x2 := block_cell HB.out.1 2
      have y0 := block_cell HB.out.2 0
      have y1 := block_cell HB.out.2 1
      have y2 := block_cell HB.out.2 2
      subst h0
      -- one call is done: its contract hx; the new world w4
      go_wp2_with fail
      refine hx.mono ?_
      clear hx
      rintro e w4 ⟨rfl, hb⟩
      have hB := hB.trans (hb.mono hB.size)
      have HB := Lib.hid (HB.out.below hb)
      clear hb
      go_wp2_with fail
      go_meet
      exact ⟨by rw [HE.out], hB, HB⟩
    · have h0b : (ea == 0) = false := by simpa using h0
      have HE : Hid (bs (if ea = 0 then showL a else []) = bs []) := by unfold Hid; rw [if_neg h0]
      have HN0 := Lib.hid h0
      clear h0
      go_wp2_with fail
      go_meet
      exact ⟨by rw [HE.out]; rfl, hB, HB⟩
  case rest =>
  obtain ⟨w4, hw4⟩ : ∃ x : World, x = wc := ⟨_, rfl⟩
  subst hw4
  obtain ⟨rfl, hB, HB⟩ := hcut
  have x0 := block_cell HB.out.1 0
  have x1 := block_cell HB.out.1 1
  have x2 := block_cell HB.out.1 2
  have y0 := block_cell HB.out.2 0
  have y1 := block_cell HB.out.2 1
  have y2 := block_cell HB.out.2 2
  have hx := H5.out w4 (HT.out.below hB).toTxP
  generalize bs (if ea = 0 then showL a else []) = want at *
  -- one call is done: its contract hx; the new world w5
  go_wp2_with fail
  refine hx.mono ?_
  clear hx
  rintro e w5 ⟨rfl, hb⟩
  have hB := hB.trans (hb.mono hB.size)
  have HB := Lib.hid (HB.out.below hb)
  clear hb
  clear H4 H5
  have hx := H3.out ea ea w5 (HG.out.below hB)
  rw [beq_self_eq_true] at hx
  -- one call is done: its contract hx; the new world w6
  go_wp2_with fail
  refine hx.mono ?_
  clear hx
  rintro e w6 ⟨rfl, hb⟩
  have hB := hB.trans (hb.mono hB.size)
  have HB := Lib.hid (HB.out.below hb)
  clear hb
  have hx := H6.out w6
  obtain ⟨v, hv⟩ : ∃ v, v = readV s.data.toList := ⟨_, rfl⟩
  obtain ⟨f, hf⟩ : ∃ f, f = readE s.data.toList := ⟨_, rfl⟩
  rw [← hv, ← hf] at hx H7
  clear hv hf H6
  -- one call is done: its contract hx; the new world w7
  go_wp2_with fail
  refine hx.mono ?_
  clear hx
  rintro e w7 ⟨rfl, hb⟩
  have hB := hB.trans (hb.mono hB.size)
  have HB := Lib.hid (HB.out.below hb)
  clear hb
  have hbx1 := (Below.refl w7.heap.size w7).alloc (Nat.le_refl _) (.cells #[.int .i64 v.ty, .int .i64 v.n, .string v.s] 43)
  have HV1 := Lib.hid (heap_alloc_new w7 (.cells #[.int .i64 v.ty, .int .i64 v.n, .string v.s] 43))
  have HB := Lib.hid (HB.out.below hbx1)
  have hB := hB.trans (hbx1.mono hB.size)
  clear hbx1
  go_upto_region 9 with fail
  generalize w7.alloc (.cells #[.int .i64 v.ty, .int .i64 v.n, .string v.s] 43) = w8 at *
  generalize w7.heap.size = q1 at *
  have hx := H7.out w8 (HT.out.below hB)
  go_wp2_with fail
  refine hx.mono ?_
  clear hx H7
  rintro e w9 ⟨rfl, hb9⟩
  have hB := hB.trans (hb9.mono hB.size)
  have HB := Lib.hid (HB.out.below hb9)
  have HV1 := Lib.hid ((hb9.block _ (Array.getElem?_eq_some_iff.1 HV1.out).1).trans HV1.out)
  have hbx1 := (Below.refl w9.heap.size w9).alloc (Nat.le_refl _) (.cells #[.int .i64 v.ty, .int .i64 v.n, .string v.s] 43)
  have HV2 := Lib.hid (heap_alloc_new w9 (.cells #[.int .i64 v.ty, .int .i64 v.n, .string v.s] 43))
  have HB := Lib.hid (HB.out.below hbx1)
  have HV1 := Lib.hid ((hbx1.block _ (Array.getElem?_eq_some_iff.1 HV1.out).1).trans HV1.out)
  have hB := hB.trans (hbx1.mono hB.size)
  clear hbx1 hb9
  go_upto_region 10 with fail
  generalize w9.alloc (.cells #[.int .i64 v.ty, .int .i64 v.n, .string v.s] 43) = w10 at *
  generalize w9.heap.size = q2 at *
  have hx := H3.out f f w10 (HG.out.below hB)
  rw [beq_self_eq_true] at hx
  go_wp2_with fail
  refine hx.mono ?_
  clear hx
  rintro e w11 ⟨rfl, hb11⟩
  have hB := hB.trans (hb11.mono hB.size)
  have HB := Lib.hid (HB.out.below hb11)
  have HV1 := Lib.hid ((hb11.block _ (Array.getElem?_eq_some_iff.1 HV1.out).1).trans HV1.out)
  have HV2 := Lib.hid ((hb11.block _ (Array.getElem?_eq_some_iff.1 HV2.out).1).trans HV2.out)
  clear hb11
  -- how the two stand: the fault
  clear HT
  by_cases h0 : ea = 0
  case neg =>
    have HE2 : Hid (cmpE2 a b = ea) := by unfold Hid; rw [HC.out.1, if_neg h0]
    have HE3 : Hid (cmpV2 a b = 0) := by unfold Hid; rw [HC.out.2, HE2.out, if_neg h0]
    have h0b : (ea == 0) = false := by simpa using h0
    have h0p := h0
    clear h0
    -- behind the fault: it is ea; how they stand: 0; the world is w11
    have hx := H10.out w11
    rw [HE2.out, HE3.out] at hx
    clear H10 HC
    have x0 := block_cell HB.out.1 0
    have x1 := block_cell HB.out.1 1
    have x2 := block_cell HB.out.1 2
    have y0 := block_cell HB.out.2 0
    have y1 := block_cell HB.out.2 1
    have y2 := block_cell HB.out.2 2
    -- one call is done: its contract hx; the new world wa (behind the two values are read)
    go_wp2_with fail
    refine hx.mono ?_
    clear hx
    rintro e wa ⟨rfl, hb⟩
    have hB := hB.trans (hb.mono hB.size)
    have HB := Lib.hid (HB.out.below hb)
    have HV1 := Lib.hid ((hb.block _ (Array.getElem?_eq_some_iff.1 HV1.out).1).trans HV1.out)
    have HV2 := Lib.hid ((hb.block _ (Array.getElem?_eq_some_iff.1 HV2.out).1).trans HV2.out)
    clear hb
    clear x0 x1 x2 y0 y1 y2
    have hx := H3.out (ea) (ea) wa (HG.out.below hB)
    rw [beq_self_eq_true] at hx
    -- one call is done: its contract hx; the new world wb (behind the two values are read)
    go_wp2_with fail
    refine hx.mono ?_
    clear hx
    rintro e wb ⟨rfl, hb⟩
    have hB := hB.trans (hb.mono hB.size)
    have HB := Lib.hid (HB.out.below hb)
    have HV1 := Lib.hid ((hb.block _ (Array.getElem?_eq_some_iff.1 HV1.out).1).trans HV1.out)
    have HV2 := Lib.hid ((hb.block _ (Array.getElem?_eq_some_iff.1 HV2.out).1).trans HV2.out)
    clear hb
    have hx := H11.out wb
    -- one call is done: its contract hx; the new world wd (behind the two values are read)
    go_wp2_with fail
    refine hx.mono ?_
    clear hx
    rintro e wd ⟨rfl, hb⟩
    have hB := hB.trans (hb.mono hB.size)
    have HB := Lib.hid (HB.out.below hb)
    have HV1 := Lib.hid ((hb.block _ (Array.getElem?_eq_some_iff.1 HV1.out).1).trans HV1.out)
    have HV2 := Lib.hid ((hb.block _ (Array.getElem?_eq_some_iff.1 HV2.out).1).trans HV2.out)
    clear hb
    have hx := H12.out wd
    go_wp2_with fail
    refine hx.mono ?_
    clear hx
    rintro e wf ⟨rfl, hw⟩
    subst hw
    have hx := H3.out (nameE s) (nameE s) wd (HG.out.below hB)
    rw [beq_self_eq_true] at hx
    generalize nameE s = ne at *
    -- one call is done: its contract hx; the new world wg (behind the two values are read)
    go_wp2_with fail
    refine hx.mono ?_
    clear hx
    rintro e wg ⟨rfl, hb⟩
    have hB := hB.trans (hb.mono hB.size)
    have HB := Lib.hid (HB.out.below hb)
    have HV1 := Lib.hid ((hb.block _ (Array.getElem?_eq_some_iff.1 HV1.out).1).trans HV1.out)
    have HV2 := Lib.hid ((hb.block _ (Array.getElem?_eq_some_iff.1 HV2.out).1).trans HV2.out)
    clear hb
    have z0 := block_cell HV1.out 0
    have z1 := block_cell HV1.out 1
    have z2 := block_cell HV1.out 2
    have u0 := block_cell HV2.out 0
    have u1 := block_cell HV2.out 1
    have u2 := block_cell HV2.out 2
    have hww : (want.toList == want.toList) = true := by simp
    have heq : ∀ wx : World, (binOp .eql 43 (.agg #[.int .i64 v.ty, .int .i64 v.n, .string v.s]) (.agg #[.int .i64 v.ty, .int .i64 v.n, .string v.s])).run Tryz.prog wx = .ok (.bool true) wx := fun wx => by rw [pval_eql]; simp
    have hgd := pval_guard
    go_wp2_with fail
    go_ret
    exact ⟨rfl, hB⟩
  subst h0
  have hx := H8.out w11
  have x0 := block_cell HB.out.1 0
  have x1 := block_cell HB.out.1 1
  have x2 := block_cell HB.out.1 2
  have y0 := block_cell HB.out.2 0
  have y1 := block_cell HB.out.2 1
  have y2 := block_cell HB.out.2 2
  -- one call is done: its contract hx; the new world w12 (behind the two values are read)
  go_wp2_with fail
  refine hx.mono ?_
  clear hx
  rintro e w12 ⟨rfl, hb⟩
  have hB := hB.trans (hb.mono hB.size)
  have HB := Lib.hid (HB.out.below hb)
  have HV1 := Lib.hid ((hb.block _ (Array.getElem?_eq_some_iff.1 HV1.out).1).trans HV1.out)
  have HV2 := Lib.hid ((hb.block _ (Array.getElem?_eq_some_iff.1 HV2.out).1).trans HV2.out)
  clear hb
  clear x0 x1 x2 y0 y1 y2
  generalize valE b = eb at *
  by_cases h0 : eb = 0
  case neg =>
    have HE2 : Hid (cmpE2 a b = eb) := by unfold Hid; rw [HC.out.1]; simp [h0]
    have HE3 : Hid (cmpV2 a b = 0) := by unfold Hid; rw [HC.out.2, HE2.out, if_neg h0]
    have h0b : (eb == 0) = false := by simpa using h0
    have h0p := h0
    clear h0
    -- behind the fault: it is eb; how they stand: 0; the world is w12
    have hx := H10.out w12
    rw [HE2.out, HE3.out] at hx
    clear H10 HC
    have x0 := block_cell HB.out.1 0
    have x1 := block_cell HB.out.1 1
    have x2 := block_cell HB.out.1 2
    have y0 := block_cell HB.out.2 0
    have y1 := block_cell HB.out.2 1
    have y2 := block_cell HB.out.2 2
    -- one call is done: its contract hx; the new world wa (behind the two values are read)
    go_wp2_with fail
    refine hx.mono ?_
    clear hx
    rintro e wa ⟨rfl, hb⟩
    have hB := hB.trans (hb.mono hB.size)
    have HB := Lib.hid (HB.out.below hb)
    have HV1 := Lib.hid ((hb.block _ (Array.getElem?_eq_some_iff.1 HV1.out).1).trans HV1.out)
    have HV2 := Lib.hid ((hb.block _ (Array.getElem?_eq_some_iff.1 HV2.out).1).trans HV2.out)
    clear hb
    clear x0 x1 x2 y0 y1 y2
    have hx := H3.out (eb) (eb) wa (HG.out.below hB)
    rw [beq_self_eq_true] at hx
    -- one call is done: its contract hx; the new world wb (behind the two values are read)
    go_wp2_with fail
    refine hx.mono ?_
    clear hx
    rintro e wb ⟨rfl, hb⟩
    have hB := hB.trans (hb.mono hB.size)
    have HB := Lib.hid (HB.out.below hb)
    have HV1 := Lib.hid ((hb.block _ (Array.getElem?_eq_some_iff.1 HV1.out).1).trans HV1.out)
    have HV2 := Lib.hid ((hb.block _ (Array.getElem?_eq_some_iff.1 HV2.out).1).trans HV2.out)
    clear hb
    have hx := H11.out wb
    -- one call is done: its contract hx; the new world wd (behind the two values are read)
    go_wp2_with fail
    refine hx.mono ?_
    clear hx
    rintro e wd ⟨rfl, hb⟩
    have hB := hB.trans (hb.mono hB.size)
    have HB := Lib.hid (HB.out.below hb)
    have HV1 := Lib.hid ((hb.block _ (Array.getElem?_eq_some_iff.1 HV1.out).1).trans HV1.out)
    have HV2 := Lib.hid ((hb.block _ (Array.getElem?_eq_some_iff.1 HV2.out).1).trans HV2.out)
    clear hb
    have hx := H12.out wd
    go_wp2_with fail
    refine hx.mono ?_
    clear hx
    rintro e wf ⟨rfl, hw⟩
    subst hw
    have hx := H3.out (nameE s) (nameE s) wd (HG.out.below hB)
    rw [beq_self_eq_true] at hx
    generalize nameE s = ne at *
    -- one call is done: its contract hx; the new world wg (behind the two values are read)
    go_wp2_with fail
    refine hx.mono ?_
    clear hx
    rintro e wg ⟨rfl, hb⟩
    have hB := hB.trans (hb.mono hB.size)
    have HB := Lib.hid (HB.out.below hb)
    have HV1 := Lib.hid ((hb.block _ (Array.getElem?_eq_some_iff.1 HV1.out).1).trans HV1.out)
    have HV2 := Lib.hid ((hb.block _ (Array.getElem?_eq_some_iff.1 HV2.out).1).trans HV2.out)
    clear hb
    have z0 := block_cell HV1.out 0
    have z1 := block_cell HV1.out 1
    have z2 := block_cell HV1.out 2
    have u0 := block_cell HV2.out 0
    have u1 := block_cell HV2.out 1
    have u2 := block_cell HV2.out 2
    have hww : (want.toList == want.toList) = true := by simp
    have heq : ∀ wx : World, (binOp .eql 43 (.agg #[.int .i64 v.ty, .int .i64 v.n, .string v.s]) (.agg #[.int .i64 v.ty, .int .i64 v.n, .string v.s])).run Tryz.prog wx = .ok (.bool true) wx := fun wx => by rw [pval_eql]; simp
    have hgd := pval_guard
    go_wp2_with fail
    go_ret
    exact ⟨rfl, hB⟩
  subst h0
  by_cases ht : a.ty = b.ty
  case neg =>
    have HE2 : Hid (cmpE2 a b = 8) := by unfold Hid; rw [HC.out.1]; simp [ht]
    have HE3 : Hid (cmpV2 a b = 0) := by unfold Hid; rw [HC.out.2, HE2.out]; rfl
    have htb : (a.ty != b.ty) = true := by simpa using ht
    clear ht
    -- behind the fault: it is 8; how they stand: 0; the world is w12
    have hx := H10.out w12
    rw [HE2.out, HE3.out] at hx
    clear H10 HC
    have x0 := block_cell HB.out.1 0
    have x1 := block_cell HB.out.1 1
    have x2 := block_cell HB.out.1 2
    have y0 := block_cell HB.out.2 0
    have y1 := block_cell HB.out.2 1
    have y2 := block_cell HB.out.2 2
    -- one call is done: its contract hx; the new world wa (behind the two values are read)
    go_wp2_with fail
    refine hx.mono ?_
    clear hx
    rintro e wa ⟨rfl, hb⟩
    have hB := hB.trans (hb.mono hB.size)
    have HB := Lib.hid (HB.out.below hb)
    have HV1 := Lib.hid ((hb.block _ (Array.getElem?_eq_some_iff.1 HV1.out).1).trans HV1.out)
    have HV2 := Lib.hid ((hb.block _ (Array.getElem?_eq_some_iff.1 HV2.out).1).trans HV2.out)
    clear hb
    clear x0 x1 x2 y0 y1 y2
    have hx := H3.out (8) (8) wa (HG.out.below hB)
    rw [beq_self_eq_true] at hx
    -- one call is done: its contract hx; the new world wb (behind the two values are read)
    go_wp2_with fail
    refine hx.mono ?_
    clear hx
    rintro e wb ⟨rfl, hb⟩
    have hB := hB.trans (hb.mono hB.size)
    have HB := Lib.hid (HB.out.below hb)
    have HV1 := Lib.hid ((hb.block _ (Array.getElem?_eq_some_iff.1 HV1.out).1).trans HV1.out)
    have HV2 := Lib.hid ((hb.block _ (Array.getElem?_eq_some_iff.1 HV2.out).1).trans HV2.out)
    clear hb
    have hx := H11.out wb
    -- one call is done: its contract hx; the new world wd (behind the two values are read)
    go_wp2_with fail
    refine hx.mono ?_
    clear hx
    rintro e wd ⟨rfl, hb⟩
    have hB := hB.trans (hb.mono hB.size)
    have HB := Lib.hid (HB.out.below hb)
    have HV1 := Lib.hid ((hb.block _ (Array.getElem?_eq_some_iff.1 HV1.out).1).trans HV1.out)
    have HV2 := Lib.hid ((hb.block _ (Array.getElem?_eq_some_iff.1 HV2.out).1).trans HV2.out)
    clear hb
    have hx := H12.out wd
    go_wp2_with fail
    refine hx.mono ?_
    clear hx
    rintro e wf ⟨rfl, hw⟩
    subst hw
    have hx := H3.out (nameE s) (nameE s) wd (HG.out.below hB)
    rw [beq_self_eq_true] at hx
    generalize nameE s = ne at *
    -- one call is done: its contract hx; the new world wg (behind the two values are read)
    go_wp2_with fail
    refine hx.mono ?_
    clear hx
    rintro e wg ⟨rfl, hb⟩
    have hB := hB.trans (hb.mono hB.size)
    have HB := Lib.hid (HB.out.below hb)
    have HV1 := Lib.hid ((hb.block _ (Array.getElem?_eq_some_iff.1 HV1.out).1).trans HV1.out)
    have HV2 := Lib.hid ((hb.block _ (Array.getElem?_eq_some_iff.1 HV2.out).1).trans HV2.out)
    clear hb
    have z0 := block_cell HV1.out 0
    have z1 := block_cell HV1.out 1
    have z2 := block_cell HV1.out 2
    have u0 := block_cell HV2.out 0
    have u1 := block_cell HV2.out 1
    have u2 := block_cell HV2.out 2
    have hww : (want.toList == want.toList) = true := by simp
    have heq : ∀ wx : World, (binOp .eql 43 (.agg #[.int .i64 v.ty, .int .i64 v.n, .string v.s]) (.agg #[.int .i64 v.ty, .int .i64 v.n, .string v.s])).run Tryz.prog wx = .ok (.bool true) wx := fun wx => by rw [pval_eql]; simp
    have hgd := pval_guard
    go_wp2_with fail
    go_ret
    exact ⟨rfl, hB⟩
  have HE2 : Hid (cmpE2 a b = 0) := by unfold Hid; rw [HC.out.1]; simp [ht]
  have HE3 : Hid (cmpV2 a b = ordV a b) := by unfold Hid; rw [HC.out.2, HE2.out, if_pos rfl]
  have htb : (a.ty != b.ty) = false := by simp [ht]
  clear ht
  have hx := H9.out w12
  have x0 := block_cell HB.out.1 0
  have x1 := block_cell HB.out.1 1
  have x2 := block_cell HB.out.1 2
  have y0 := block_cell HB.out.2 0
  have y1 := block_cell HB.out.2 1
  have y2 := block_cell HB.out.2 2
  generalize ordV a b = od at *
  -- one call is done: its contract hx; the new world w13 (behind the two values are read)
  go_wp2_with fail
  refine hx.mono ?_
  clear hx
  rintro e w13 ⟨rfl, hb⟩
  have hB := hB.trans (hb.mono hB.size)
  have HB := Lib.hid (HB.out.below hb)
  have HV1 := Lib.hid ((hb.block _ (Array.getElem?_eq_some_iff.1 HV1.out).1).trans HV1.out)
  have HV2 := Lib.hid ((hb.block _ (Array.getElem?_eq_some_iff.1 HV2.out).1).trans HV2.out)
  clear hb
  clear x0 x1 x2 y0 y1 y2
  -- behind the fault: it is 0; how they stand: od; the world is w13
  have hx := H10.out w13
  rw [HE2.out, HE3.out] at hx
  clear H10 HC
  have x0 := block_cell HB.out.1 0
  have x1 := block_cell HB.out.1 1
  have x2 := block_cell HB.out.1 2
  have y0 := block_cell HB.out.2 0
  have y1 := block_cell HB.out.2 1
  have y2 := block_cell HB.out.2 2
  -- one call is done: its contract hx; the new world wa (behind the two values are read)
  go_wp2_with fail
  refine hx.mono ?_
  clear hx
  rintro e wa ⟨rfl, hb⟩
  have hB := hB.trans (hb.mono hB.size)
  have HB := Lib.hid (HB.out.below hb)
  have HV1 := Lib.hid ((hb.block _ (Array.getElem?_eq_some_iff.1 HV1.out).1).trans HV1.out)
  have HV2 := Lib.hid ((hb.block _ (Array.getElem?_eq_some_iff.1 HV2.out).1).trans HV2.out)
  clear hb
  clear x0 x1 x2 y0 y1 y2
  have hx := H3.out (0) (0) wa (HG.out.below hB)
  rw [beq_self_eq_true] at hx
  -- one call is done: its contract hx; the new world wb (behind the two values are read)
  go_wp2_with fail
  refine hx.mono ?_
  clear hx
  rintro e wb ⟨rfl, hb⟩
  have hB := hB.trans (hb.mono hB.size)
  have HB := Lib.hid (HB.out.below hb)
  have HV1 := Lib.hid ((hb.block _ (Array.getElem?_eq_some_iff.1 HV1.out).1).trans HV1.out)
  have HV2 := Lib.hid ((hb.block _ (Array.getElem?_eq_some_iff.1 HV2.out).1).trans HV2.out)
  clear hb
  have hx := H11.out wb
  -- one call is done: its contract hx; the new world wd (behind the two values are read)
  go_wp2_with fail
  refine hx.mono ?_
  clear hx
  rintro e wd ⟨rfl, hb⟩
  have hB := hB.trans (hb.mono hB.size)
  have HB := Lib.hid (HB.out.below hb)
  have HV1 := Lib.hid ((hb.block _ (Array.getElem?_eq_some_iff.1 HV1.out).1).trans HV1.out)
  have HV2 := Lib.hid ((hb.block _ (Array.getElem?_eq_some_iff.1 HV2.out).1).trans HV2.out)
  clear hb
  have hx := H12.out wd
  go_wp2_with fail
  refine hx.mono ?_
  clear hx
  rintro e wf ⟨rfl, hw⟩
  subst hw
  have hx := H3.out (nameE s) (nameE s) wd (HG.out.below hB)
  rw [beq_self_eq_true] at hx
  generalize nameE s = ne at *
  -- one call is done: its contract hx; the new world wg (behind the two values are read)
  go_wp2_with fail
  refine hx.mono ?_
  clear hx
  rintro e wg ⟨rfl, hb⟩
  have hB := hB.trans (hb.mono hB.size)
  have HB := Lib.hid (HB.out.below hb)
  have HV1 := Lib.hid ((hb.block _ (Array.getElem?_eq_some_iff.1 HV1.out).1).trans HV1.out)
  have HV2 := Lib.hid ((hb.block _ (Array.getElem?_eq_some_iff.1 HV2.out).1).trans HV2.out)
  clear hb
  have z0 := block_cell HV1.out 0
  have z1 := block_cell HV1.out 1
  have z2 := block_cell HV1.out 2
  have u0 := block_cell HV2.out 0
  have u1 := block_cell HV2.out 1
  have u2 := block_cell HV2.out 2
  have hww : (want.toList == want.toList) = true := by simp
  have heq : ∀ wx : World, (binOp .eql 43 (.agg #[.int .i64 v.ty, .int .i64 v.n, .string v.s]) (.agg #[.int .i64 v.ty, .int .i64 v.n, .string v.s])).run Tryz.prog wx = .ok (.bool true) wx := fun wx => by rw [pval_eql]; simp
  have hgd := pval_guard
  go_wp2_with fail
  go_ret
  exact ⟨rfl, hB⟩
end Go.Proofs.YtdmpkgiijddcdaaGreatDoor
