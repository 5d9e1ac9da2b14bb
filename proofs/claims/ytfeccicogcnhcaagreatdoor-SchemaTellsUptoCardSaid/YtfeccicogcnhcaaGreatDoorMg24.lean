/- Parts: STl, OpenA, OpenB, OpenC, LaidW, TxG. -/
import Derived.Test.YtfeccicogcnhcaaGreatDoorMg19
import Derived.Test.YtfeccicogcnhcaaGreatDoorMg11
import Derived.Test.YtfeccicogcnhcaaGreatDoorMg21
import Derived.Test.YtfeccicogcnhcaaGreatDoorMg22
import Derived.Test.YtfeccicogcnhcaaGreatDoorMg23
import Derived.Test.YtfeccicogcnhcaaGreatDoorMg18
import Derived.Test.YtfeccicogcnhcaaGreatDoorMg16
import Derived.Test.YtfeccicogcnhcaaGreatDoorMg09
import Derived.Deep.DeepCutAuto
import Derived.Deep.Light
import Derived.Deep.CutBlock
import Derived.Test.YtfeccicogcnhcaaGreatDoorMg01
import Derived.Test.YtfeccicogcnhcaaGreatDoorRows
import Derived.Deep.Slices
import Derived.Lib.SmallJoins
import Derived.JoinedCond
import Derived.Carry
import Derived.ChangeMaps5
import Derived.Lib.LaidU8
import Derived.LaidHandle
import Derived.MakeChecks
import Derived.Test.YtfeccicogcnhcaaGreatDoorMg08
import Derived.LaidLaws
import Derived.Lib.LaidTab
import Derived.Shelf.Vars
/- The law SchemaTells, of the walks' contracts. Conditions: what the library's texts lean on (TxOk, Typ4); the variable of errors.As; the texts are not too long. -/
namespace Go.Proofs.YtfeccicogcnhcaaGreatDoor
open Go Go.RowKit



theorem bnd_eql (x y : Bnd) (w : World) : (binOp .eql 40 (.agg #[.string x.name, .string x.src, .string x.dst, .int .i64 x.mn, .int .i64 x.mx]) (.agg #[.string y.name, .string y.src, .string y.dst, .int .i64 y.mn, .int .i64 y.mx])).run Tryz.prog w = .ok (.bool (decide (x = y))) w := by
  rw [run_eql_struct, show (10000 : Nat) = 9998 + 2 from rfl, bnd_same]; rfl
set_option maxRecDepth 100000 in
set_option maxHeartbeats 16000000 in
theorem schemaTells_any (g : Scm) (s name : ByteArray) (vk vb : Value) (w : World) (hT : TxOk w) (hY : Typ4 w) (hgl : GlobOk w) (hg : ScmR w vk vb g) (hs : Sm s) (hn : Sm name) :
    Calls Tryz.prog 3 #[.agg #[vk, vb], .string s, .string name] w fun e w' => e = .returned (.bool true) ∧ Below w.heap.size w w' := by
  obtain ⟨A1, c1, rfl, _, _⟩ := hg.1.form
  obtain ⟨A2, c2, rfl, _, _⟩ := hg.2.form
  have hb0 : Below w.heap.size w (w.alloc (.cells #[.slice A1 g.kinds.length c1, .slice A2 g.bonds.length c2] 25)) := (Below.refl _ _).alloc (Nat.le_refl _) _
  obtain ⟨x0, x1⟩ := cell_box2 w (.slice A1 g.kinds.length c1) (.slice A2 g.bonds.length c2) 25
  have HG := Lib.hid (hg.below hb0)
  have HT := Lib.hid hT
  have HY := Lib.hid hY
  have HL := Lib.hid hgl
  have H1 := Lib.hid (fun wx h => rschema_any g (.slice A1 g.kinds.length c1) (.slice A2 g.bonds.length c2) wx h)
  have H2 := Lib.hid (fun wx h => scheck_any g (.slice A1 g.kinds.length c1) (.slice A2 g.bonds.length c2) wx h)
  have H3 := Lib.hid (fun h0 wx h => rschemaText_any g (.slice A1 g.kinds.length c1) (.slice A2 g.bonds.length c2) wx h h0)
  have H4 := Lib.hid (fun k wx h => same_any k k wx h)
  have H5 := Lib.hid (fun wx ht h => sprint_any g (.slice A1 g.kinds.length c1) (.slice A2 g.bonds.length c2) wx ht h)
  have H6 := Lib.hid (fun wx => rreadSchema_any s hs wx)
  have H7 := Lib.hid (fun wx ht hy => sparse_any s hs wx ht hy)
  have H8 := Lib.hid (fun wx h => rbond_any g.bonds name (.slice A2 g.bonds.length c2) wx h)
  have H9 := Lib.hid (fun wx h => sbond_any g name (.slice A1 g.kinds.length c1) (.slice A2 g.bonds.length c2) wx h)
  have HA := Lib.hid (fun wx h => rkind_any g.kinds name (.slice A1 g.kinds.length c1) wx h)
  have HB := Lib.hid (fun wx h => sfrom_any g name (.slice A1 g.kinds.length c1) (.slice A2 g.bonds.length c2) wx h hn)
  generalize readSV s.data.toList = RV at *
  generalize readSE s.data.toList = RE at *
  generalize readSN s.data.toList = RN at *
  clear hg hT hY hgl hs
  go_enter Tryz.func3, Tryz.ntmps3
  go_upto_region 1 with fail
  generalize w.alloc (.cells #[.slice A1 g.kinds.length c1, .slice A2 g.bonds.length c2] 25) = W0 at *
  have X0 := Lib.hid x0
  have X1 := Lib.hid x1
  have hB := hb0
  have hx := H1.out W0 HG.out
  go_wp2_with fail
  refine hx.mono ?_
  clear hx x0 x1 H1
  rintro e w1 ⟨rfl, hb⟩
  have hB := hB.trans (hb.mono hB.size)
  have x0 := cell_below hb X0.out
  have x1 := cell_below hb X1.out
  have hx := H2.out w1 (HG.out.below hb)
  unfold SCheckR at hx
  generalize (scmE g).1 = who at *
  generalize hea : (scmE g).2 = ea at *
  have HEA := Lib.hid hea
  clear hea H2
  go_wp2_with fail
  refine hx.mono ?_
  clear hx x0 x1
  rintro e w2 ⟨rfl, hbx⟩
  have hB := hB.trans (hbx.mono hB.size)
  have hb := hb.trans (hbx.mono hb.size)
  clear hbx
  have hx := H4.out ea w2 (HL.out.below hB)
  rw [beq_self_eq_true] at hx
  -- one call is done: its contract hx; the new world w3
  go_wp2_with fail
  refine hx.mono ?_
  clear hx
  rintro e w3 ⟨rfl, hbx⟩
  have hB := hB.trans (hbx.mono hB.size)
  have hb := hb.trans (hbx.mono hb.size)
  clear hbx
  go_upto_if 46 with fail
  go_cut [12] from 46 to 46 (fun v wx => v = .string (bs (if ea = 0 then scmT g else [])) ∧ Below W0.heap.size W0 wx)
  case first =>
    -- of what is to be done behind only the innermost is kept
    rename ∀ (a : Act) (w : World), Code.wp _ _ _ a w → _ => hkeep
    revert hkeep
    repeat (rename ∀ (a : Act) (w : World), Code.wp _ _ _ a w → _ => hz; clear hz)
    intro hkeep
    by_cases h0 : ea = 0
    · have h0b : (ea == 0) = true := by simpa using h0
      have HE : Hid (bs (if ea = 0 then scmT g else []) = bs (scmT g)) := by unfold Hid; rw [if_pos h0]
      have hx := H3.out h0 w3 (HG.out.below hb)
      have x0 := cell_below hb X0.out
      have x1 := cell_below hb X1.out
      subst h0
      go_wp2_with fail
      refine hx.mono ?_
      clear hx
      rintro e w4 ⟨rfl, hb2⟩
      go_wp2_with fail
      go_meet
      exact ⟨by rw [HE.out], hb.trans (hb2.mono hb.size)⟩
    · have h0b : (ea == 0) = false := by simpa using h0
      have HE : Hid (bs (if ea = 0 then scmT g else []) = bs []) := by unfold Hid; rw [if_neg h0]
      clear h0
      go_wp2_with fail
      go_meet
      exact ⟨by rw [HE.out]; rfl, hb⟩
  case rest =>
  obtain ⟨w4, hw4⟩ : ∃ x : World, x = wc := ⟨_, rfl⟩
  subst hw4
  clear hb hB H3
  obtain ⟨rfl, hb⟩ := hcut
  have hB := hb0.trans (hb.mono hb0.size)
  have x0 := cell_below hb X0.out
  have x1 := cell_below hb X1.out
  have hx := H5.out w4 (HY.out.below hB).1 (HG.out.below hb)
  generalize bs (if ea = 0 then scmT g else []) = want at *
  clear H5
  -- one call is done: its contract hx; the new world w5
  go_wp2_with fail
  refine hx.mono ?_
  clear hx
  rintro e w5 ⟨rfl, hbx⟩
  have hB := hB.trans (hbx.mono hB.size)
  have hb := hb.trans (hbx.mono hb.size)
  clear x0 x1 hbx
  have hx := H4.out ea w5 (HL.out.below hB)
  rw [beq_self_eq_true] at hx
  -- one call is done: its contract hx; the new world w6
  go_wp2_with fail
  refine hx.mono ?_
  clear hx
  rintro e w6 ⟨rfl, hbx⟩
  have hB := hB.trans (hbx.mono hB.size)
  have hb := hb.trans (hbx.mono hb.size)
  clear hbx
  have hx := H6.out w6
  go_wp2_with fail
  refine hx.mono ?_
  clear hx H6
  rintro e w7 ⟨vn, vt, rfl, hg6, hbx⟩
  have hB := hB.trans (hbx.mono hB.size)
  have hb := hb.trans (hbx.mono hb.size)
  clear hbx
  obtain ⟨A6, c6, rfl, _, _⟩ := hg6.1.form
  obtain ⟨A7, c7, rfl, _, _⟩ := hg6.2.form
  have ha := (Below.refl w7.heap.size w7).alloc (Nat.le_refl _) (.cells #[.slice A6 RV.kinds.length c6, .slice A7 RV.bonds.length c7] 25)
  obtain ⟨z0, z1⟩ := cell_box2 w7 (.slice A6 RV.kinds.length c6) (.slice A7 RV.bonds.length c7) 25
  have HX := Lib.hid (hg6.below ha)
  have hB := hB.trans (ha.mono hB.size)
  have hb := hb.trans (ha.mono hb.size)
  have Z0 := Lib.hid z0
  have Z1 := Lib.hid z1
  clear ha hg6
  go_upto_region 10 with fail
  clear z0 z1
  generalize w7.alloc (.cells #[.slice A6 RV.kinds.length c6, .slice A7 RV.bonds.length c7] 25) = w8 at *
  generalize w7.heap.size = q1 at *
  have hx := H7.out w8 (HT.out.below hB) (HY.out.below hB)
  go_wp2_with fail
  refine hx.mono ?_
  clear hx H7
  rintro e w9 ⟨vn, vt, rfl, hg8, hbx⟩
  have hB := hB.trans (hbx.mono hB.size)
  have hb := hb.trans (hbx.mono hb.size)
  obtain ⟨A8, c8, rfl, _, _⟩ := hg8.1.form
  obtain ⟨A9, c9, rfl, _, _⟩ := hg8.2.form
  have ha := (Below.refl w9.heap.size w9).alloc (Nat.le_refl _) (.cells #[.slice A8 RV.kinds.length c8, .slice A9 RV.bonds.length c9] 25)
  obtain ⟨u0, u1⟩ := cell_box2 w9 (.slice A8 RV.kinds.length c8) (.slice A9 RV.bonds.length c9) 25
  have hbx := hbx.trans (ha.mono hbx.size)
  have HX := Lib.hid (HX.out.below hbx)
  have Z0 := Lib.hid (cell_below hbx Z0.out)
  have Z1 := Lib.hid (cell_below hbx Z1.out)
  have HYY := Lib.hid (hg8.below ha)
  have hB := hB.trans (ha.mono hB.size)
  have hb := hb.trans (ha.mono hb.size)
  have U0 := Lib.hid u0
  have U1 := Lib.hid u1
  clear ha hbx hg8
  go_upto_region 11 with fail
  clear u0 u1
  generalize w9.alloc (.cells #[.slice A8 RV.kinds.length c8, .slice A9 RV.bonds.length c9] 25) = wa at *
  generalize w9.heap.size = q2 at *
  have hx := H4.out RE wa (HL.out.below hB)
  rw [beq_self_eq_true] at hx
  -- one call is done: its contract hx; the new world wb
  go_wp2_with fail
  refine hx.mono ?_
  clear hx
  rintro e wb ⟨rfl, hbx⟩
  have hB := hB.trans (hbx.mono hB.size)
  have hb := hb.trans (hbx.mono hb.size)
  have z0 := cell_below hbx Z0.out
  have z1 := cell_below hbx Z1.out
  have u0 := cell_below hbx U0.out
  have u1 := cell_below hbx U1.out
  have hx := sschema_any RV (.slice A8 RV.kinds.length c8) (.slice A9 RV.bonds.length c9) (.slice A6 RV.kinds.length c6) (.slice A7 RV.bonds.length c7) wb (HYY.out.below hbx) (HX.out.below hbx)
  clear Z0 Z1 U0 U1 HX HYY hbx
  -- one call is done: its contract hx; the new world wd
  go_wp2_with fail
  refine hx.mono ?_
  clear hx
  rintro e wd ⟨rfl, hbx⟩
  have hB := hB.trans (hbx.mono hB.size)
  have hb := hb.trans (hbx.mono hb.size)
  clear z0 z1 u0 u1 hbx
  have HBK := Lib.hid (heap_alloc_new wd (.cells #[.string ⟨#[]⟩, .string ⟨#[]⟩, .string ⟨#[]⟩, .int .i64 0, .int .i64 0] 40))
  have ha := (Below.refl wd.heap.size wd).alloc (Nat.le_refl _) (.cells #[.string ⟨#[]⟩, .string ⟨#[]⟩, .string ⟨#[]⟩, .int .i64 0, .int .i64 0] 40)
  have HQW : Hid (W0.heap.size ≤ wd.heap.size) := hb.size
  have hB := hB.trans (ha.mono hB.size)
  have hb := hb.trans (ha.mono hb.size)
  clear ha
  go_upto_region 15 with fail
  generalize wd.alloc (.cells #[.string ⟨#[]⟩, .string ⟨#[]⟩, .string ⟨#[]⟩, .int .i64 0, .int .i64 0] 40) = we at *
  generalize wd.heap.size = qb at *
  have HSE : Hid (sbE g name = if ea = 0 then (if bFind g.bonds name < 0 then 5 else 0) else ea) := by unfold Hid sbE; rw [HEA.out]
  have HSV : Hid (sbV g name = if sbE g name = 0 then g.bonds.getD (bFind g.bonds name).toNat zBnd else zBnd) := rfl
  have HNF : Hid (0 ≤ bFind g.bonds name → ∃ (k : Nat) (d : Bnd), g.bonds[k]? = some d ∧ bFind g.bonds name = (k : Int)) := fun h => by
    obtain ⟨i, d, h1, h2, _, _⟩ := idxI_nonneg h
    exact ⟨i, d, h2, h1⟩
  go_upto_if 77 with fail
  go_cut [17] from 77 to 77 (fun v wx => v = .int .i64 (sbE g name) ∧ Hid (Below W0.heap.size W0 wx) ∧ Hid (wx.heap[qb]? = some (.cells #[.string (sbV g name).name, .string (sbV g name).src, .string (sbV g name).dst, .int .i64 (sbV g name).mn, .int .i64 (sbV g name).mx] 40 (0, 0))))
  case first =>
    -- of what is to be done behind only the innermost is kept
    rename ∀ (a : Act) (w : World), Code.wp _ _ _ a w → _ => hkeep
    revert hkeep
    repeat (rename ∀ (a : Act) (w : World), Code.wp _ _ _ a w → _ => hz; clear hz)
    intro hkeep
    by_cases h0 : ea = 0
    case neg =>
      have h0b : (ea == 0) = false := by simpa using h0
      have E1 : Hid (sbE g name = ea) := by unfold Hid; rw [HSE.out, if_neg h0]
      have E2 : Hid (sbV g name = zBnd) := by unfold Hid; rw [HSV.out, E1.out, if_neg h0]
      have HBB := Lib.hid hb
      clear h0
      go_wp2_with fail
      go_meet
      exact ⟨by rw [E1.out], HBB, by rw [E2.out]; exact HBK⟩
    have h0b : (ea == 0) = true := by simpa using h0
    have HSE2 : Hid (sbE g name = if bFind g.bonds name < 0 then 5 else 0) := by unfold Hid; rw [HSE.out, if_pos h0]
    have H0 := Lib.hid h0
    clear h0
    have x1 := cell_below hb X1.out
    have hx := H8.out we (HG.out.below hb).2
    generalize bFind g.bonds name = F at *
    go_wp2_with fail
    refine hx.mono ?_
    clear hx x1
    rintro e wf ⟨rfl, hw⟩
    subst hw
    by_cases hf : F < 0
    · have E1 : Hid (sbE g name = 5) := by unfold Hid; rw [HSE2.out, if_pos hf]
      have E2 : Hid (sbV g name = zBnd) := by unfold Hid; rw [HSV.out, E1.out]; rfl
      have hfd : decide (F < 0) = true := decide_eq_true hf
      have HBB := Lib.hid hb
      clear hf
      go_wp2_with fail
      go_meet
      exact ⟨by rw [E1.out], HBB, by rw [E2.out]; exact HBK⟩
    · obtain ⟨k, d, hd, rfl⟩ := HNF.out (Int.not_lt.1 hf)
      have E1 : Hid (sbE g name = 0) := by unfold Hid; rw [HSE2.out, if_neg hf]
      have E2 : Hid (sbV g name = d) := by unfold Hid; rw [HSV.out, E1.out, if_pos rfl]; simp [List.getD, hd]
      have hfd : decide ((k : Int) < 0) = false := decide_eq_false hf
      have x1 := cell_below hb X1.out
      have hkl : (k : Int) < (g.bonds.length : Int) := Int.ofNat_lt.2 (List.getElem?_eq_some_iff.1 hd).1
      obtain ⟨gb, o, rfl, _, r0, r1, r2, r3, r4⟩ := bnd_at (HG.out.below hb).2 hd
      have y0 := block_cell HBK.out 0
      have y1 := block_cell HBK.out 1
      have y2 := block_cell HBK.out 2
      have y3 := block_cell HBK.out 3
      have y4 := block_cell HBK.out 4
      have f0 := block_free HBK.out 0
      have f1 := block_free HBK.out 1
      have f2 := block_free HBK.out 2
      have f3 := block_free HBK.out 3
      have f4 := block_free HBK.out 4
      have HZ := Lib.hid (res5q HQW.out (.string d.name) (.string d.src) (.string d.dst) (.int .i64 d.mn) (.int .i64 d.mx) hb HBK.out)
      clear hf hd
      go_wp2_with fail
      go_meet
      exact ⟨by rw [E1.out, H0.out], HZ.out.1, by rw [E2.out]; exact HZ.out.2⟩
  case rest =>
  obtain ⟨wf, hwf⟩ : ∃ x : World, x = wc := ⟨_, rfl⟩
  subst hwf
  clear hb hB HBK HSE HNF H8
  obtain ⟨rfl, HB0, HBK⟩ := hcut
  have hb := HB0.out
  have hB := hb0.trans (hb.mono hb0.size)
  have x0 := cell_below hb X0.out
  have x1 := cell_below hb X1.out
  have hx := H9.out wf (HG.out.below hb)
  generalize sbE g name = sb at *
  generalize sbV g name = sv at *
  clear H9
  go_wp2_with fail
  refine hx.mono ?_
  clear hx x0 x1
  rintro e wg ⟨rfl, hbx⟩
  have hB := hB.trans (hbx.mono hB.size)
  have hb := hb.trans (hbx.mono hb.size)
  have HBK := Lib.hid ((hbx.block _ (Array.getElem?_eq_some_iff.1 HBK.out).1).trans HBK.out)
  have HCK := Lib.hid (heap_alloc_new wg (.cells #[.string sv.name, .string sv.src, .string sv.dst, .int .i64 sv.mn, .int .i64 sv.mx] 40))
  have ha := (Below.refl wg.heap.size wg).alloc (Nat.le_refl _) (.cells #[.string sv.name, .string sv.src, .string sv.dst, .int .i64 sv.mn, .int .i64 sv.mx] 40)
  have HBK := Lib.hid ((ha.block _ (Array.getElem?_eq_some_iff.1 HBK.out).1).trans HBK.out)
  have hB := hB.trans (ha.mono hB.size)
  have hb := hb.trans (ha.mono hb.size)
  clear ha hbx HB0
  go_upto_region 21 with fail
  generalize wg.alloc (.cells #[.string sv.name, .string sv.src, .string sv.dst, .int .i64 sv.mn, .int .i64 sv.mx] 40) = wh at *
  generalize wg.heap.size = qc at *
  have hx := H4.out sb wh (HL.out.below hB)
  rw [beq_self_eq_true] at hx
  -- one call is done: its contract hx; the new world wi
  go_wp2_with fail
  refine hx.mono ?_
  clear hx
  rintro e wi ⟨rfl, hbx⟩
  have hB := hB.trans (hbx.mono hB.size)
  have hb := hb.trans (hbx.mono hb.size)
  have HBK := Lib.hid ((hbx.block _ (Array.getElem?_eq_some_iff.1 HBK.out).1).trans HBK.out)
  have HCK := Lib.hid ((hbx.block _ (Array.getElem?_eq_some_iff.1 HCK.out).1).trans HCK.out)
  clear hbx
  go_upto_region 22 with fail
  have HSF : Hid (sfE g name = if ea = 0 then (if kFind g.kinds name < 0 then 5 else 0) else ea) := by unfold Hid sfE; rw [HEA.out]
  have HSL : Hid (sfV g name = if sfE g name = 0 then sfL g name else []) := rfl
  go_cut [106] from 281 to 281 (fun v wx => v = .bool (decide (ea = 0 ∧ kFind g.kinds name < 0)) ∧ wx = wi)
  case first =>
    -- of what is to be done behind only the innermost is kept
    rename ∀ (a : Act) (w : World), Code.wp _ _ _ a w → _ => hkeep
    revert hkeep
    repeat (rename ∀ (a : Act) (w : World), Code.wp _ _ _ a w → _ => hz; clear hz)
    intro hkeep
    by_cases h0 : ea = 0
    case neg =>
      have h0b : (ea == 0) = false := by simpa using h0
      have HD := Lib.hid (decide_eq_false (p := ea = 0 ∧ kFind g.kinds name < 0) (fun h => h0 h.1))
      clear h0
      go_wp2_with fail
      go_meet
      exact ⟨by rw [HD.out], rfl⟩
    have h0b : (ea == 0) = true := by simpa using h0
    have x0 := cell_below hb X0.out
    have hx := HA.out wi (HG.out.below hb).1
    have HD : Hid (decide (ea = 0 ∧ kFind g.kinds name < 0) = decide (kFind g.kinds name < 0)) := by
      unfold Hid
      rw [h0]; simp
    clear h0
    generalize kFind g.kinds name = F at *
    go_wp2_with fail
    refine hx.mono ?_
    clear hx x0
    rintro e wj ⟨rfl, hw⟩
    subst hw
    by_cases hf : F < 0
    · have HF := Lib.hid (decide_eq_true hf)
      have hfd : decide (F < 0) = true := decide_eq_true hf
      clear hf
      go_wp2_with fail
      go_meet
      exact ⟨by rw [HD.out, HF.out], rfl⟩
    · have HF := Lib.hid (decide_eq_false hf)
      have hfd : decide (F < 0) = false := decide_eq_false hf
      clear hf
      go_wp2_with fail
      go_meet
      exact ⟨by rw [HD.out, HF.out], rfl⟩
  case rest =>
  obtain ⟨rfl, hw⟩ := hcut
  obtain ⟨wj, hwj⟩ : ∃ x : World, x = wc := ⟨_, rfl⟩
  subst hwj
  rw [← hw] at hb hB HBK HCK
  clear hw
  go_upto_if 106 with fail
  go_cut [8] from 106 to 106 (fun v wx => v = .int .i64 (sfE g name) ∧ wx = wj)
  case first =>
    -- of what is to be done behind only the innermost is kept
    rename ∀ (a : Act) (w : World), Code.wp _ _ _ a w → _ => hkeep
    revert hkeep
    repeat (rename ∀ (a : Act) (w : World), Code.wp _ _ _ a w → _ => hz; clear hz)
    intro hkeep
    by_cases h0 : ea = 0 ∧ kFind g.kinds name < 0
    · have E1 : Hid (sfE g name = 5) := by unfold Hid; rw [HSF.out, if_pos h0.1, if_pos h0.2]
      rw [decide_eq_true h0]
      clear h0
      go_wp2_with fail
      go_meet
      exact ⟨by rw [E1.out], rfl⟩
    · have E1 : Hid (sfE g name = ea) := by
        unfold Hid
        rw [HSF.out]
        by_cases h1 : ea = 0
        · rw [if_pos h1, if_neg (fun h => h0 ⟨h1, h⟩), h1]
        · rw [if_neg h1]
      rw [decide_eq_false h0]
      clear h0
      go_wp2_with fail
      go_meet
      exact ⟨by rw [E1.out], rfl⟩
  case rest =>
  obtain ⟨rfl, hw⟩ := hcut
  obtain ⟨wk, hwk⟩ : ∃ x : World, x = wc := ⟨_, rfl⟩
  subst hwk
  rw [← hw] at hb hB HBK HCK
  clear hw
  go_upto_block 0 with fail
  have HZF : Hid (sfE g name = 0 → (scmE g).2 = 0 ∧ 0 ≤ kFind g.kinds name) := fun h => by
    rw [HSF.out] at h
    by_cases h0 : ea = 0
    · rw [if_pos h0] at h
      by_cases h1 : kFind g.kinds name < 0
      · rw [if_pos h1] at h; cases h
      · exact ⟨by rw [HEA.out, h0], Int.not_lt.1 h1⟩
    · rw [if_neg h0] at h; exact absurd h h0
  have HWK := Lib.hid hb
  obtain ⟨i0, ei, ez, ez1, ez2⟩ := info_parts str_info
  go_cut [26] from 281 to 281 (fun v wx => Hid (Sl strL wx v (sfV g name)) ∧ Hid (Below wk.heap.size wk wx))
  case first =>
    -- of what is to be done behind only the innermost is kept
    rename ∀ (a : Act) (w : World), Code.wp _ _ _ a w → _ => hkeep
    revert hkeep
    repeat (rename ∀ (a : Act) (w : World), Code.wp _ _ _ a w → _ => hz; clear hz)
    intro hkeep
    by_cases hz : sfE g name = 0
    case neg =>
      have hzb : (sfE g name == 0) = false := by simpa using hz
      have E1 : Hid (sfV g name = []) := by unfold Hid; rw [HSL.out, if_neg hz]
      have x1 := cell_below hb X1.out
      clear hz
      go_wp2_with fail
      go_loopw [26, 27] (fun x26 x27 wr => x26 = .slice none 0 0 ∧ x27 = .int .i64 0 ∧ wr = wk) (fun _ _ _ => 0)
      case atStart => exact ⟨rfl, rfl, rfl⟩
      case round =>
        obtain ⟨rfl, rfl, hw⟩ := hrel
        subst hw
        by_cases hl : 0 < g.bonds.length
        · have hl' : (0 : Int) < (g.bonds.length : Int) := Int.ofNat_lt.2 hl
          clear hl
          go_wp2_with fail
          go_meet
          exact ⟨by rw [E1.out]; exact Sl.nil 0 (Nat.zero_le _) none, Below.refl _ _⟩
        · have hl' : ¬ (0 : Int) < (g.bonds.length : Int) := fun h => hl (Int.ofNat_lt.1 h)
          clear hl
          go_wp2_with fail
          go_meet
          exact ⟨by rw [E1.out]; exact Sl.nil 0 (Nat.zero_le _) none, Below.refl _ _⟩
    have hzb : (sfE g name == 0) = true := by simpa using hz
    obtain ⟨hz1, hz2⟩ := HZF.out hz
    have HSO := Lib.hid (scmE_zero hz1)
    have HWF := Lib.hid HSO.out.r.wf
    have hkl := HSO.out.r.len
    have hbl := HSO.out.bl
    have E1 : Hid (sfV g name = sfL g name) := by unfold Hid; rw [HSL.out, if_pos hz]
    have HR := Lib.hid (fun b wx h => ris_any g.kinds name b (.slice A1 g.kinds.length c1) wx h HWF.out hz2 hkl)
    clear hz hz1 hz2
    go_wp2_with fail
    go_loopw [26, 27] (fun x26 x27 wr => ∃ (k : Nat) (l : List ByteArray), k ≤ g.bonds.length ∧ x27 = .int .i64 k ∧ l.length ≤ k ∧ Hid (l = sfL ⟨g.kinds, g.bonds.take k⟩ name) ∧ Hid (∀ x ∈ l, Sm x) ∧ Hid (Own wr wk.heap.size 9 1 x26 l.length (l.map Value.string)) ∧ Hid (Below wk.heap.size wk wr)) (fun _ x27 _ => g.bonds.length - (intOf x27).toNat)
    case atStart => exact ⟨0, [], Nat.zero_le _, rfl, Nat.le_refl _, rfl, fun _ h => (by cases h), Own.nil _ _ _ _, Below.refl _ _⟩
    case round =>
      obtain ⟨k, l, hk, rfl, hlk, HL, HLS, HOW, HBR⟩ := hrel
      obtain ⟨wo, hwo⟩ : ∃ x : World, x = wr := ⟨_, rfl⟩
      subst hwo
      obtain ⟨Al, cl, hvl, _, _⟩ := HOW.out.form
      subst hvl
      have hbb := hb.trans (HBR.out.mono hb.size)
      have x0 := cell_below hbb X0.out
      have x1 := cell_below hbb X1.out
      by_cases hlt : k < g.bonds.length
      · obtain ⟨d, hd⟩ : ∃ d, g.bonds[k]? = some d := ⟨_, List.getElem?_eq_getElem hlt⟩
        have hlt' : (k : Int) < (g.bonds.length : Int) := Int.ofNat_lt.2 hlt
        obtain ⟨gb, o, rfl, hdo, r0, r1, _⟩ := bnd_at (HG.out.below hbb).2 hd
        have HST := Lib.hid (sfL_step (name := name) hd)
        have HDN := Lib.hid hdo.1
        have HRS := Lib.hid (fun nq => HR.out d.src (wo.drewN nq) ((HG.out.below hbb).1.below (Go.below_drewN (Below.refl _ _) nq)))
        clear hd hdo
        generalize isKinB g.kinds name d.src = isk at *
        go_wp2_with fail
        refine wp_mid_k 9 _ rfl rfl (by kernel_rfl) (by kernel_rfl) ?_
        simp only [List.take_succ_cons, List.take_zero, List.drop_succ_cons, List.drop_zero]
        repeat (go_big_quiet_step (fail))
        refine wpQuiet_nil ?_
        intro _ hw'
        obtain ⟨nq, hw''⟩ := hw'
        subst hw''
        intro K hK
        have hx := HRS.out nq
        clear HRS
        go_wp2_with fail
        refine hx.mono ?_
        clear hx
        rintro e wq ⟨rfl, hbq⟩
        refine hK _ _ ?_
        repeat (go_big_quiet_step (fail))
        refine wpQuiet_nil ?_
        intro _ hw'
        obtain ⟨nq2, hw''⟩ := hw'
        subst hw''
        clear hK
        have hbq3 := Go.below_drewN ((Go.below_drewN (Below.refl wo.heap.size wo) nq).trans (hbq.mono (Nat.le_refl _))) nq2
        generalize wq.drewN nq2 = wt at *
        have HBR := Lib.hid (HBR.out.trans (hbq3.mono HBR.out.size))
        have HOW := Lib.hid (HOW.out.below hbq3)
        have x1 := cell_below hbq3 x1
        have r0 := cell_below hbq3 r0
        clear x0 r1 hbq hbq3
        cases isk with
        | false =>
          have HL2 : Hid (l = sfL ⟨g.kinds, g.bonds.take (k + 1)⟩ name) := by unfold Hid; rw [HST.out, ← HL.out]; simp
          clear HST HL
          go_wp2_with fail
          go_roundw
          case rel => exact ⟨k + 1, l, by go_light; omega, by go_num, by go_light; omega, HL2, HLS, HOW, HBR⟩
          case measure => go_light; simp [intOf]; omega
        | true =>
          have HL2 : Hid (l ++ [d.name] = sfL ⟨g.kinds, g.bonds.take (k + 1)⟩ name) := by unfold Hid; rw [HST.out, ← HL.out]; simp
          have HLS2 : Hid (∀ x ∈ l ++ [d.name], Sm x) := fun x hx => by
            rcases List.mem_append.1 hx with h | h
            · exact HLS.out x h
            · rw [List.mem_singleton.1 h]; exact HDN.out
          have haq : Below wt.heap.size wt (wt.alloc (.cells #[.string d.name] 9)) := (Below.refl _ _).alloc (Nat.le_refl _) _
          have HOA := Lib.hid (HOW.out.below haq)
          have HNW : Hid (∀ j u', ([.string d.name] : List Value)[j]? = some u' → (wt.alloc (.cells #[.string d.name] 9)).cell? ⟨wt.heap.size, j, none⟩ = some u') := fun j u' hj => by
            rw [World.cell?_alloc_at _ _ _ _ rfl]; simpa using hj
          have HBA := Lib.hid (HBR.out.trans (haq.mono HBR.out.size))
          clear HST HL haq
          go_wp2_with (first
            | (at_builtin
               refine wpList_append_q _ rfl (.tmp 129) (.tmp 136) _ rfl wk.heap.size 9 i0 (.string .empty) 1 16 Tryz.underlying45 ei ez ez1 ez2 rfl (by decide) (.slice Al l.length cl) l.length (l.map Value.string) rfl HOA.out (some ⟨wt.heap.size, 0, none⟩) 1 1 [.string d.name] rfl rfl (fun _ => ⟨_, rfl, fun j u' hj => by rw [addr_add, Nat.zero_add]; exact HNW.out j u' hj⟩) (fun u' hu => by simp at hu; subst hu; rfl) (by go_light; unfold maxLen; omega) (by go_light; omega) HBA.out.size ?_
               intro v7 w7 hown7 hg7 hat7
               have HO7 : Hid (Own w7 wk.heap.size 9 1 v7 (l ++ [d.name]).length ((l ++ [d.name]).map Value.string)) := by
                 rw [List.map_append, List.length_append]; exact hown7
               have HB7 := Lib.hid (HBA.out.grown hg7 HBA.out.size (fun kk e => (HOA.out.lt kk e).1))
               clear hown7 hg7 hat7))
          go_roundw
          case rel => exact ⟨k + 1, l ++ [d.name], by go_light; omega, by go_num, by rw [List.length_append]; exact Nat.add_le_add_right hlk 1, HL2, HLS2, HO7, HB7⟩
          case measure => go_light; simp [intOf]; omega
      · obtain rfl : k = g.bonds.length := by go_light; omega
        have HF : Hid (sfV g name = l) := by unfold Hid; rw [E1.out, HL.out, sfL_whole]
        go_wp2_with fail
        go_meet
        exact ⟨by rw [HF.out]; exact Own.strs HLS.out HOW.out, HBR⟩
  case rest =>
  obtain ⟨wl, hwl⟩ : ∃ x : World, x = wc := ⟨_, rfl⟩
  subst hwl
  obtain ⟨v26, rfl⟩ : ∃ x : Value, x = u26 := ⟨_, rfl⟩
  obtain ⟨HS26, HBL⟩ := hcut
  have hB := hB.trans (HBL.out.mono hB.size)
  have hb := hb.trans (HBL.out.mono hb.size)
  have HBK := Lib.hid ((HBL.out.block _ (Array.getElem?_eq_some_iff.1 HBK.out).1).trans HBK.out)
  have HCK := Lib.hid ((HBL.out.block _ (Array.getElem?_eq_some_iff.1 HCK.out).1).trans HCK.out)
  obtain ⟨A26, c26, rfl, _, _⟩ := HS26.out.form
  have x0 := cell_below hb X0.out
  have x1 := cell_below hb X1.out
  have hx := HB.out wl (HG.out.below hb)
  clear HZF HSF HSL HBL HB HA HWK
  generalize sfE g name = sf at *
  generalize sfV g name = fv at *
  go_wp2_with fail
  refine hx.mono ?_
  clear hx x0 x1
  rintro e wm ⟨v29, rfl, hsv, hbx⟩
  obtain ⟨A29, c29, rfl, _, _⟩ := hsv.form
  have hB := hB.trans (hbx.mono hB.size)
  have HBK := Lib.hid ((hbx.block _ (Array.getElem?_eq_some_iff.1 HBK.out).1).trans HBK.out)
  have HCK := Lib.hid ((hbx.block _ (Array.getElem?_eq_some_iff.1 HCK.out).1).trans HCK.out)
  have HS26 := Lib.hid (HS26.out.below hbx)
  have HS29 := Lib.hid hsv
  clear hbx hsv hb
  have hx := H4.out sf wm (HL.out.below hB)
  rw [beq_self_eq_true] at hx
  -- one call is done: its contract hx; the new world wn
  go_wp2_with fail
  refine hx.mono ?_
  clear hx
  rintro e wn ⟨rfl, hbx⟩
  have hB := hB.trans (hbx.mono hB.size)
  have HBK := Lib.hid ((hbx.block _ (Array.getElem?_eq_some_iff.1 HBK.out).1).trans HBK.out)
  have HCK := Lib.hid ((hbx.block _ (Array.getElem?_eq_some_iff.1 HCK.out).1).trans HCK.out)
  have hx := texts_any fv fv (.slice A29 fv.length c29) (.slice A26 fv.length c26) wn (HS29.out.below hbx) (HS26.out.below hbx)
  simp only [decide_true] at hx
  clear hbx
  -- one call is done: its contract hx; the new world wo
  go_wp2_with fail
  refine hx.mono ?_
  clear hx
  rintro e wo ⟨rfl, hbx⟩
  have hB := hB.trans (hbx.mono hB.size)
  have HBK := Lib.hid ((hbx.block _ (Array.getElem?_eq_some_iff.1 HBK.out).1).trans HBK.out)
  have HCK := Lib.hid ((hbx.block _ (Array.getElem?_eq_some_iff.1 HCK.out).1).trans HCK.out)
  clear hbx H4
  have z0 := block_cell HBK.out 0
  have z1 := block_cell HBK.out 1
  have z2 := block_cell HBK.out 2
  have z3 := block_cell HBK.out 3
  have z4 := block_cell HBK.out 4
  have y0 := block_cell HCK.out 0
  have y1 := block_cell HCK.out 1
  have y2 := block_cell HCK.out 2
  have y3 := block_cell HCK.out 3
  have y4 := block_cell HCK.out 4
  have heql := bnd_eql sv sv
  simp only [decide_true] at heql
  have hww : (want.toList == want.toList) = true := by simp
  have hwh : (who.toList == who.toList) = true := by simp
  have hnn : ((RN : Int) == (RN : Int)) = true := by simp
  go_wp2_with fail
  go_ret
  exact ⟨rfl, hB⟩
open Go Go.RowKit Go.Deep Go.ChangeShapes Go.WideShapes Go.Joins

/-! ### Bulk -/
section
variable {H : Type}
theorem bulk_part {d : DataW H} {l : List (DataW H)} (h : d ∈ l) : Rows.uptoBulk d ≤ Rows.uptoBulkAll l := by
  induction l with
  | nil => cases h
  | cons x r ih =>
    simp only [Rows.uptoBulkAll]
    cases List.mem_cons.1 h with
    | inl e => subst e; omega
    | inr e => have := ih e; omega
theorem bulk_small {ds : List (DataW H)} (hk : Rows.uptoSmall H ds = true) {d : DataW H} (h : d ∈ ds) : Rows.uptoBulk d ≤ 1048576 := by
  have h1 : Rows.uptoBulkAll ds ≤ 1048576 := of_decide_eq_true hk
  have := bulk_part h
  omega
end

/-- Data of type t lie as L says. -/
def Opens {D : Type} (P : Program) (L : Lay D) (t : TypeId) : Prop :=
  ∀ (H : Type) (enc : TypeId × Value → H) (w : World) (base : Nat) (spare : Nat → Bool) (held : Bool) (fuel : Nat) (cs : List Value) (x : DataW H × List MemPlace),
    DataW.trod enc P w base spare held fuel t cs = some x → Rows.uptoBulk x.1 ≤ 1048576 → ∃ d, L.cells w d cs

theorem add_off (b o n : Nat) : (⟨b, o, none⟩ : Addr).add n = ⟨b, o + n, none⟩ := by
  unfold Addr.add
  split
  · rename_i h; subst h; rfl
  · rfl

theorem rows_of {D : Type} {L : Lay D} {w : World} {a : Addr} {len : Nat} (h : ∀ i, i < len → ∃ d cs, L.cells w d cs ∧ ∀ j u, cs[j]? = some u → w.cell? ((a.add (i * L.sz)).add j) = some u) :
    ∀ k, k ≤ len → ∃ l : List D, l.length = k ∧ ∀ i d, l[i]? = some d → ∃ cs, L.cells w d cs ∧ ∀ j u, cs[j]? = some u → w.cell? ((a.add (i * L.sz)).add j) = some u
  | 0, _ => ⟨[], rfl, fun i d hi => by simp at hi⟩
  | k + 1, hk => by
    obtain ⟨l, hl, hall⟩ := rows_of h k (by omega)
    obtain ⟨d, cs, hc, hcell⟩ := h k (by omega)
    refine ⟨l ++ [d], by simp [hl], fun i x hi => ?_⟩
    by_cases hik : i < l.length
    · rw [List.getElem?_append_left hik] at hi
      exact hall i x hi
    · rw [List.getElem?_append_right (by omega)] at hi
      have e1 : i - l.length = 0 := by
        have := (List.getElem?_eq_some_iff.1 hi).1
        simp at this; omega
      rw [e1] at hi
      simp at hi
      subst hi
      obtain rfl : i = k := by omega
      exact ⟨cs, hc, hcell⟩

theorem Opens.slice {D : Type} {P : Program} {L : Lay D} {t e : TypeId} (ht : P.underlying t = some (.slice e)) (hC : P.cellsOf e = L.sz) (hs : 0 < L.sz) (h : Opens P L e) : Opens P (slL L) t := by
  intro H enc w base spare held fuel cs x hx hb
  rcases open_slice ht hx with ⟨rfl, rfl⟩ | ⟨a, len, cap, m, n, D', Pl, rfl, hbb, hl, hm, hmm, rfl, hi⟩
  · exact ⟨[], _, rfl, Sl.nil 0 (by unfold maxLen; omega) none⟩
  · have hm' : len ≤ m := by rw [hmm]; split <;> omega
    have hbA : Rows.uptoBulkAll ((List.range len).map D') ≤ 1048576 := by
      simp only [Rows.uptoBulk] at hb
      omega
    have each : ∀ i, i < len → ∃ d cs, L.cells w d cs ∧ ∀ j u, cs[j]? = some u → w.cell? ((a.add (i * L.sz)).add j) = some u := fun i hil => by
      obtain ⟨cs', hc, ht'⟩ := hi i (by omega)
      rw [hC] at hc
      obtain ⟨_, hcl, hat⟩ := World.cells?_some hc
      have hbi : Rows.uptoBulk (D' i) ≤ 1048576 := by
        have := bulk_part (d := D' i) (l := (List.range len).map D') (List.mem_map.2 ⟨i, List.mem_range.2 hil, rfl⟩)
        omega
      obtain ⟨d, hd⟩ := h H enc w base spare held n cs' _ ht' hbi
      refine ⟨d, cs', hd, fun j u hj => ?_⟩
      have hjl : j < L.sz := by have := (List.getElem?_eq_some_iff.1 hj).1; omega
      rw [hat j hjl, hj]
    by_cases h0 : len = 0
    · subst h0
      exact ⟨[], _, rfl, Sl.nil cap hm (some a)⟩
    · obtain ⟨b, o, spot⟩ := a
      have hspot : spot = none := by
        obtain ⟨d, cs', hd, hcell⟩ := each 0 (by omega)
        have hl0 := L.len hd
        have h1 := hcell 0 _ (List.getElem?_eq_getElem (by omega))
        simpa [Addr.add] using World.cell?_spot h1
      subst hspot
      obtain ⟨l, hll, hall⟩ := rows_of each len (Nat.le_refl _)
      subst hll
      refine ⟨l, _, rfl, _, cap, rfl, hl, hm, fun i d hid => ?_⟩
      obtain ⟨cs', hd, hcell⟩ := hall i d hid
      refine ⟨b, o, cs', rfl, hd, fun j u hj => ?_⟩
      have := hcell j u hj
      rw [add_off, add_off, Nat.add_assoc] at this
      exact this

theorem field_at {H : Type} {enc : TypeId × Value → H} {P : Program} {w : World} {base : Nat} {spare : Nat → Bool} {held : Bool} {t : TypeId} {fs : Array Field} {fuel : Nat} {cs : List Value} {x : DataW H × List MemPlace}
    (ht : P.underlying t = some (.struct fs)) (h : DataW.trod enc P w base spare held fuel t cs = some x) (hb : Rows.uptoBulk x.1 ≤ 1048576) :
    cs.length = P.cellsOf t ∧ ∀ {D : Type} {L : Lay D} (i : Nat) (f : Field) (k : Nat), fs[i]? = some f → P.cellsOf f.type = k → Opens P L f.type → ∃ d, L.cells w d ((cs.drop f.offset).take k) := by
  obtain ⟨xs, n, _, rfl, hl, hxl, hf⟩ := DataW.trod_struct ht h
  refine ⟨hl, fun i f k hi hk ho => ?_⟩
  have h1 := hf i f hi
  have hil : i < xs.length := by have := (Array.getElem?_eq_some_iff.1 hi).1; omega
  obtain ⟨y, hy⟩ : ∃ y, xs[i]? = some y := ⟨_, List.getElem?_eq_getElem hil⟩
  rw [hy, hk] at h1
  refine ho H enc w base spare held n _ y h1 ?_
  have := bulk_part (d := y.1) (l := xs.map (·.1)) (List.mem_map.2 ⟨y, List.mem_of_getElem? hy, rfl⟩)
  simp only [Rows.uptoBulk] at hb
  omega

theorem opens_int {P : Program} {t : TypeId} (ht : P.underlying t = some (.int .i64)) : Opens P intL t := by
  intro H enc w base spare held fuel cs x hx hb
  obtain ⟨n, rfl, rfl, hw⟩ := DataW.trod_int ht hx
  refine ⟨n, rfl, ?_⟩
  have e1 : IntKind.i64.min = -9223372036854775808 := rfl
  have e2 : IntKind.i64.max = 9223372036854775807 := rfl
  simp [Lit.wf, e1, e2] at hw
  exact hw
theorem opens_str {P : Program} {t : TypeId} (ht : P.underlying t = some .string) : Opens P strL t := by
  intro H enc w base spare held fuel cs x hx hb
  obtain ⟨s, rfl, rfl, hw⟩ := DataW.trod_string ht hx
  refine ⟨s, rfl, ?_⟩
  simp only [Rows.uptoBulk, Array.length_toList] at hb
  show s.data.size ≤ 1048576
  omega
def boolL : Lay Bool := flatL 1 (fun _ => True) (fun b => [.bool b]) (fun _ => rfl)
theorem opens_bool {P : Program} {t : TypeId} (ht : P.underlying t = some .bool) : Opens P boolL t := by
  intro H enc w base spare held fuel cs x hx hb
  obtain ⟨b, rfl, rfl⟩ := DataW.trod_bool ht hx
  exact ⟨b, rfl, trivial⟩
open Go Go.RowKit Go.Deep Go.ChangeShapes Go.WideShapes

theorem oInt : Opens Tryz.prog intL 3 := opens_int Tryz.underlying3
theorem oStr : Opens Tryz.prog strL 9 := opens_str Tryz.underlying9
theorem oBool : Opens Tryz.prog boolL 4 := opens_bool Tryz.underlying4

theorem o_fld : Opens Tryz.prog fldL 61 := by
  intro H enc w base spare held fuel cs x hx hb
  obtain ⟨hl, hf⟩ := field_at Tryz.underlying61 hx hb
  rw [show Tryz.prog.cellsOf 61 = 4 from by kernel_rfl] at hl
  match cs, hl with
  | [c0, c1, c2, c3], _ =>
    obtain ⟨a0, e0, h0⟩ := hf (L := strL) 0 _ 1 rfl (by kernel_rfl) oStr
    have e0 : [c0] = [.string a0] := e0
    injection e0 with e0 _
    subst e0
    obtain ⟨a1, e1, h1⟩ := hf (L := intL) 1 _ 1 rfl (by kernel_rfl) oInt
    have e1 : [c1] = [.int .i64 a1] := e1
    injection e1 with e1 _
    subst e1
    obtain ⟨a2, e2, h2⟩ := hf (L := boolL) 2 _ 1 rfl (by kernel_rfl) oBool
    have e2 : [c2] = [.bool a2] := e2
    injection e2 with e2 _
    subst e2
    obtain ⟨a3, e3, h3⟩ := hf (L := boolL) 3 _ 1 rfl (by kernel_rfl) oBool
    have e3 : [c3] = [.bool a3] := e3
    injection e3 with e3 _
    subst e3
    exact ⟨⟨a0, a1, a2, a3⟩, rfl, h0, h1⟩
theorem o_bnd : Opens Tryz.prog bndL 40 := by
  intro H enc w base spare held fuel cs x hx hb
  obtain ⟨hl, hf⟩ := field_at Tryz.underlying40 hx hb
  rw [show Tryz.prog.cellsOf 40 = 5 from by kernel_rfl] at hl
  match cs, hl with
  | [c0, c1, c2, c3, c4], _ =>
    obtain ⟨a0, e0, h0⟩ := hf (L := strL) 0 _ 1 rfl (by kernel_rfl) oStr
    have e0 : [c0] = [.string a0] := e0
    injection e0 with e0 _
    subst e0
    obtain ⟨a1, e1, h1⟩ := hf (L := strL) 1 _ 1 rfl (by kernel_rfl) oStr
    have e1 : [c1] = [.string a1] := e1
    injection e1 with e1 _
    subst e1
    obtain ⟨a2, e2, h2⟩ := hf (L := strL) 2 _ 1 rfl (by kernel_rfl) oStr
    have e2 : [c2] = [.string a2] := e2
    injection e2 with e2 _
    subst e2
    obtain ⟨a3, e3, h3⟩ := hf (L := intL) 3 _ 1 rfl (by kernel_rfl) oInt
    have e3 : [c3] = [.int .i64 a3] := e3
    injection e3 with e3 _
    subst e3
    obtain ⟨a4, e4, h4⟩ := hf (L := intL) 4 _ 1 rfl (by kernel_rfl) oInt
    have e4 : [c4] = [.int .i64 a4] := e4
    injection e4 with e4 _
    subst e4
    exact ⟨⟨a0, a1, a2, a3, a4⟩, rfl, h0, h1, h2, h3, h4⟩
theorem o_strs : Opens Tryz.prog (slL strL) 45 := Opens.slice Tryz.underlying45 (by kernel_rfl) (by decide) oStr
theorem o_flds : Opens Tryz.prog (slL fldL) 57 := Opens.slice Tryz.underlying57 (by kernel_rfl) (by decide) o_fld
theorem o_bnds : Opens Tryz.prog (slL bndL) 23 := Opens.slice Tryz.underlying23 (by kernel_rfl) (by decide) o_bnd
theorem o_knd : Opens Tryz.prog kndL 59 := by
  intro H enc w base spare held fuel cs x hx hb
  obtain ⟨hl, hf⟩ := field_at Tryz.underlying59 hx hb
  rw [show Tryz.prog.cellsOf 59 = 3 from by kernel_rfl] at hl
  match cs, hl with
  | [c0, c1, c2], _ =>
    obtain ⟨a0, e0, h0⟩ := hf (L := strL) 0 _ 1 rfl (by kernel_rfl) oStr
    have e0 : [c0] = [.string a0] := e0
    injection e0 with e0 _
    subst e0
    obtain ⟨a1, v1, e1, h1⟩ := hf (L := slL strL) 1 _ 1 rfl (by kernel_rfl) o_strs
    have e1 : [c1] = [v1] := e1
    injection e1 with e1 _
    subst e1
    obtain ⟨a2, v2, e2, h2⟩ := hf (L := slL fldL) 2 _ 1 rfl (by kernel_rfl) o_flds
    have e2 : [c2] = [v2] := e2
    injection e2 with e2 _
    subst e2
    exact ⟨⟨a0, a1, a2⟩, c1, c2, rfl, h0, h1, h2⟩
theorem o_knds : Opens Tryz.prog (slL kndL) 22 := Opens.slice Tryz.underlying22 (by kernel_rfl) (by decide) o_knd

/-! ### Arguments -/
set_option maxRecDepth 100000 in
/-- A struct of two slices. -/
theorem arg_two {D E : Type} {L : Lay D} {M : Lay E} {t : TypeId} {f0 f1 : Field} {H : Type} {enc : TypeId × Value → H} {w : World} {base b0 : Nat} {r : Reach} {spare : Nat → Bool} {held : Bool} {v : Value} {d : DataW H} {p : List MemPlace}
    (hs : Tryz.prog.underlying t = some (.struct #[f0, f1])) (hone : oneCellFields Tryz.prog #[f0, f1] = true) (hC : Tryz.prog.cellsOf t = 2) (h0 : Opens Tryz.prog (slL L) f0.type) (h1 : Opens Tryz.prog (slL M) f1.type)
    (hv : Value.okWide Tryz.prog w r b0 t v) (h : DataW.Trod enc Tryz.prog w base spare held t v d p) (hb : Rows.uptoBulk d ≤ 1048576) : ∃ v0 v1 l m, v = .agg #[v0, v1] ∧ Sl L w v0 l ∧ Sl M w v1 m := by
  obtain ⟨v0, v1, y0, y1, n, rfl, rfl, rfl, g0, g1⟩ := Joins.open_agg2 hs hone hC hv h
  simp only [Rows.uptoBulk, Rows.uptoBulkAll] at hb
  obtain ⟨l, v0', e0, k0⟩ := h0 H enc w base spare held n _ _ g0 (by omega)
  obtain ⟨m, v1', e1, k1⟩ := h1 H enc w base spare held n _ _ g1 (by omega)
  injection e0 with e0 _
  injection e1 with e1 _
  subst e0; subst e1
  exact ⟨v0, v1, l, m, rfl, k0, k1⟩
set_option maxRecDepth 100000 in
theorem arg_schema {H : Type} {enc : TypeId × Value → H} {w : World} {base b0 : Nat} {r : Reach} {spare : Nat → Bool} {held : Bool} {v : Value} {d : DataW H} {p : List MemPlace}
    (hv : Value.okWide Tryz.prog w r b0 25 v) (h : DataW.Trod enc Tryz.prog w base spare held 25 v d p) (hb : Rows.uptoBulk d ≤ 1048576) : ∃ v0 v1 g, v = .agg #[v0, v1] ∧ ScmR w v0 v1 g := by
  obtain ⟨v0, v1, l, m, rfl, h0, h1⟩ := arg_two Tryz.underlying25 (by kernel_rfl) (by kernel_rfl) o_knds o_bnds hv h hb
  exact ⟨v0, v1, ⟨l, m⟩, rfl, h0, h1⟩

set_option maxRecDepth 100000 in
theorem arg_str {H : Type} {enc : TypeId × Value → H} {w : World} {base b0 : Nat} {r : Reach} {spare : Nat → Bool} {held : Bool} {v : Value} {d : DataW H} {p : List MemPlace}
    (hv : Value.okWide Tryz.prog w r b0 9 v) (h : DataW.Trod enc Tryz.prog w base spare held 9 v d p) (hb : Rows.uptoBulk d ≤ 1048576) : ∃ s, v = .string s ∧ Sm s := by
  obtain ⟨s, rfl, rfl, _, _⟩ := ChangeMaps.open_string Tryz.underlying9 hv h
  refine ⟨s, rfl, ?_⟩
  have hb' : s.data.toList.length + 1 ≤ 1048576 := hb
  clear hb
  unfold Sm
  have : s.data.toList.length = s.size := Array.length_toList
  omega
open Go

def laidOne : DataW Unit → Value
  | .lit (.int k z) => .int k z
  | .lit (.string b) => .string ⟨b.toArray⟩
  | _ => .int .i64 0
def laidTwo : DataW Unit → List Value
  | .agg ds => ds.map laidOne
  | d => [laidOne d]
def laidCells : DataW Unit → List Value
  | .agg ds => ds.flatMap laidTwo
  | d => [laidOne d]
/-- A row of heap objects, one variable's cells laid. -/
def layVar (h : Array Obj) (g : Nat) (d : DataW Unit) : Array Obj := h.modify g fun
  | .cells _ t frozen => .cells (laidCells d).toArray t frozen
  | o => o
/-- The same: a variable that holds an error, whose text lies in block b. -/
def layErr (h : Array Obj) (g t b : Nat) : Array Obj := h.modify g fun
  | .cells _ u frozen => .cells #[.iface t (.pointer (some ⟨b, 0, none⟩))] u frozen
  | o => o
/-- The same: a variable that holds one value. -/
def layVal (h : Array Obj) (g : Nat) (v : Value) : Array Obj := h.modify g fun
  | .cells _ u frozen => .cells #[v] u frozen
  | o => o
/-- A laid array of strings holds them, cell for cell. -/
theorem strs_of_reads {P : Program} {w : World} {n : String} {g t e m : Nat} {ds : List (DataW Unit)} (hg : P.globalNamed n = some g) (ht : (P.globals[g]?).map (·.type) = some t) (hu : P.underlying t = some (.array m e)) (he : P.underlying e = some .string) (hc : P.cellsOf e = 1)
    (h : Lib.VarReads P w n (.agg ds)) (i : Nat) (hi : i < m) {b : List UInt8} (hd : ds[i]? = some (.lit (.string b))) : w.cell? ⟨g, i, none⟩ = some (.string ⟨b.toArray⟩) := by
  obtain ⟨g', t', cs, fuel, p, h1, h2, h3, h4⟩ := h
  obtain rfl := Option.some.inj (hg.symm.trans h1)
  obtain rfl := Option.some.inj (ht.symm.trans h2)
  obtain ⟨fuel', d, q, hdi, hx⟩ := Lib.array_elem hu h4 i hi
  obtain rfl := Option.some.inj (hd.symm.trans hdi)
  rw [hc] at hx
  obtain ⟨s, hs, hx2, _⟩ := DataW.trod_string he hx
  have e1 : b = s.data.toList := by injection (congrArg Prod.fst hx2) with e1; injection e1
  have e0 := congrArg (·[0]?) hs
  rw [World.var?_cell h1 h3 i, ← Array.getElem?_toList]
  simp only [List.getElem?_take, List.getElem?_drop] at e0
  rw [e1]
  simpa using e0

theorem tab_of_reads {w : World} (h : Lib.VarReads Tryz.prog w "internal/strconv.uint64pow10" Rows.laid_internal_strconv_uint64pow10) : Lib.TabIs Tryz.prog w "internal/strconv.uint64pow10" .u64 Lib.pow10Tab := by
  obtain ⟨g, t, cs, fuel, p, h1, h2, h3, h4⟩ := h
  obtain rfl := Option.some.inj ((show Tryz.prog.globalNamed "internal/strconv.uint64pow10" = some 3 by kernel_rfl).symm.trans h1)
  obtain rfl := Option.some.inj ((show (Tryz.prog.globals[3]?).map (·.type) = some 175 by kernel_rfl).symm.trans h2)
  have e := Lib.cells_of_tab (zs := Lib.pow10Tab) Tryz.underlying175 Tryz.underlying162 (by kernel_rfl) (by kernel_rfl) h4
  unfold Lib.TabIs
  rw [h3, ← e]
theorem len_of_shaped {w : World} (h : w.ShapedOpen Tryz.prog) : ∃ m, w.cell? ⟨2, 0, none⟩ = some (.int .i64 m) :=
  cell_of_shapedOpen_int (zero := #[.int .i64 0]) (t := 3) h (of_decide_eq_true (by kernel_rfl)) (by kernel_rfl) rfl (by kernel_rfl) (by kernel_rfl) Tryz.underlying3
theorem txp_of {w : World} {l : List (String × DataW Unit)} (h : laidMet Tryz.prog l w) (hs : w.ShapedOpen Tryz.prog) (h1 : ("internal/strconv.uint64pow10", Rows.laid_internal_strconv_uint64pow10) ∈ l) : TxP w :=
  ⟨len_of_shaped hs, tab_of_reads (Lib.laidMet.reads h h1)⟩
theorem iface_of_reads {w : World} {n nm : String} {g : Nat} {d : DataW Unit} (hg : Tryz.prog.globalNamed n = some g) (ht : (Tryz.prog.globals[g]?).map (·.type) = some 29) (h : Lib.VarReads Tryz.prog w n (.iface nm d)) : ∃ tp p, w.var? Tryz.prog n = some #[.iface tp p] := by
  obtain ⟨g', t, cs, fuel, p, h1, h2, h3, h4⟩ := h
  obtain rfl := Option.some.inj (hg.symm.trans h1)
  obtain rfl := Option.some.inj (ht.symm.trans h2)
  obtain ⟨_, u, v, e, _⟩ := iface_of_trod Tryz.underlying29 h4
  have e2 : cs = #[.iface u v] := by cases cs; simpa using e
  exact ⟨u, v, by rw [h3, e2]⟩
theorem txok_of {w : World} {l : List (String × DataW Unit)} (h : laidMet Tryz.prog l w) (hs : w.ShapedOpen Tryz.prog) (h1 : ("internal/strconv.uint64pow10", Rows.laid_internal_strconv_uint64pow10) ∈ l) (h2 : ("strconv.ErrSyntax", Rows.laid_strconv_ErrSyntax) ∈ l) (h3 : ("strconv.ErrRange", Rows.laid_strconv_ErrRange) ∈ l) : TxOk w where
  toTxP := txp_of h hs h1
  sy := iface_of_reads (g := 6) (by kernel_rfl) (by kernel_rfl) (Lib.laidMet.reads h h2)
  ra := iface_of_reads (g := 7) (by kernel_rfl) (by kernel_rfl) (Lib.laidMet.reads h h3)
end Go.Proofs.YtfeccicogcnhcaaGreatDoor
