/- Parts: SbB. -/
import Derived.Test.YtfeccicogcnhcaaGreatDoorMg18
import Derived.Test.YtfeccicogcnhcaaGreatDoorMg07
/- Contract: schema.Bond: the bond of a name. -/
namespace Go.Proofs.YtfeccicogcnhcaaGreatDoor
open Go Go.RowKit

/-- What is wrong when a bond of a name is asked for. -/
def sbE (s : Scm) (name : ByteArray) : Int := if (scmE s).2 = 0 then (if bFind s.bonds name < 0 then 5 else 0) else (scmE s).2
def zBnd : Bnd := ⟨⟨#[]⟩, ⟨#[]⟩, ⟨#[]⟩, 0, 0⟩
def sbV (s : Scm) (name : ByteArray) : Bnd := if sbE s name = 0 then s.bonds.getD (bFind s.bonds name).toNat zBnd else zBnd
theorem res5q {w w1 : World} {q : Nat} {T : TypeId} {c0 c1 c2 c3 c4 : Value} (hq : w.heap.size ≤ q) (a b c d e : Value) (hB : Below w.heap.size w w1) (h : w1.heap[q]? = some (.cells #[c0, c1, c2, c3, c4] T (0, 0))) :
    Below w.heap.size w (((((w1.setCell ⟨q, 0, none⟩ a).setCell ⟨q, 1, none⟩ b).setCell ⟨q, 2, none⟩ c).setCell ⟨q, 3, none⟩ d).setCell ⟨q, 4, none⟩ e) ∧
    (((((w1.setCell ⟨q, 0, none⟩ a).setCell ⟨q, 1, none⟩ b).setCell ⟨q, 2, none⟩ c).setCell ⟨q, 3, none⟩ d).setCell ⟨q, 4, none⟩ e).heap[q]? = some (.cells #[a, b, c, d, e] T (0, 0)) :=
  ⟨((((hB.setCell (p := ⟨q, 0, none⟩) hq _).setCell (p := ⟨q, 1, none⟩) hq _).setCell (p := ⟨q, 2, none⟩) hq _).setCell (p := ⟨q, 3, none⟩) hq _).setCell (p := ⟨q, 4, none⟩) hq _,
    setCell_block (setCell_block (setCell_block (setCell_block (setCell_block h 0 a) 1 b) 2 c) 3 d) 4 e⟩
set_option maxRecDepth 100000 in
set_option maxHeartbeats 8000000 in
theorem sbond_any (s : Scm) (name : ByteArray) (vk vb : Value) (w : World) (hS : ScmR w vk vb s) :
    Calls Tryz.prog 13 #[.agg #[vk, vb], .string name] w fun e w' => e = .returned (.tuple #[.agg #[.string (sbV s name).name, .string (sbV s name).src, .string (sbV s name).dst, .int .i64 (sbV s name).mn, .int .i64 (sbV s name).mx], errV (sbE s name)]) ∧ Below w.heap.size w w' := by
  obtain ⟨A1, c1, rfl, _, _⟩ := hS.1.form
  obtain ⟨A2, c2, rfl, _, hm2⟩ := hS.2.form
  have ha0 : Below w.heap.size w (w.alloc (.cells #[.slice A1 s.kinds.length c1, .slice A2 s.bonds.length c2] 25)) := (Below.refl _ _).alloc (Nat.le_refl _) _
  obtain ⟨x0, x1⟩ := cell_box2 w (.slice A1 s.kinds.length c1) (.slice A2 s.bonds.length c2) 25
  have ha1 := (Below.refl (w.alloc (.cells #[.slice A1 s.kinds.length c1, .slice A2 s.bonds.length c2] 25)).heap.size (w.alloc (.cells #[.slice A1 s.kinds.length c1, .slice A2 s.bonds.length c2] 25))).alloc (Nat.le_refl _) (.cells #[.string ⟨#[]⟩, .string ⟨#[]⟩, .string ⟨#[]⟩, .int .i64 0, .int .i64 0] 40)
  have hbk : ((w.alloc (.cells #[.slice A1 s.kinds.length c1, .slice A2 s.bonds.length c2] 25)).alloc (.cells #[.string ⟨#[]⟩, .string ⟨#[]⟩, .string ⟨#[]⟩, .int .i64 0, .int .i64 0] 40)).heap[w.heap.size + 1]? = some (.cells #[.string ⟨#[]⟩, .string ⟨#[]⟩, .string ⟨#[]⟩, .int .i64 0, .int .i64 0] 40 (0, 0)) := heap_at_new _ _ _ (by simp)
  have x0 := cell_below ha1 x0
  have x1 := cell_below ha1 x1
  have hb0 := ha0.trans (ha1.mono ha0.size)
  have HS := Lib.hid (hS.below hb0)
  have HE : Hid (sbE s name = if (scmE s).2 = 0 then (if bFind s.bonds name < 0 then 5 else 0) else (scmE s).2) := rfl
  have HV : Hid (sbV s name = if sbE s name = 0 then s.bonds.getD (bFind s.bonds name).toNat zBnd else zBnd) := rfl
  have HN : Hid (0 ≤ bFind s.bonds name → ∃ (k : Nat) (d : Bnd), s.bonds[k]? = some d ∧ bFind s.bonds name = (k : Int)) := fun h => by
    obtain ⟨i, d, h1, h2, _, _⟩ := idxI_nonneg h
    exact ⟨i, d, h2, h1⟩
  unfold maxLen at hm2
  clear hS ha0 ha1
  go_enter Tryz.func13, Tryz.ntmps13
  go_upto_region 1 with fail
  generalize (w.alloc (.cells #[.slice A1 s.kinds.length c1, .slice A2 s.bonds.length c2] 25)).alloc (.cells #[.string ⟨#[]⟩, .string ⟨#[]⟩, .string ⟨#[]⟩, .int .i64 0, .int .i64 0] 40) = W0 at *
  have X := Lib.hid (And.intro x0 x1)
  have HBK := Lib.hid hbk
  clear hbk
  have hx := sright_any s _ _ W0 HS.out
  generalize (scmE s).2 = ee at *
  go_wp2_with fail
  refine hx.mono ?_
  clear hx x0 x1
  rintro e w1 ⟨rfl, hb1⟩
  have hB1 := hb0.trans (hb1.mono hb0.size)
  have HBK1 := Lib.hid ((hb1.block _ (Array.getElem?_eq_some_iff.1 HBK.out).1).trans HBK.out)
  by_cases hz : ee = 0
  case neg =>
    have H1 : Hid (sbE s name = ee) := by unfold Hid; rw [HE.out, if_neg hz]
    have H2 : Hid (sbV s name = zBnd) := by unfold Hid; rw [HV.out, H1.out, if_neg hz]
    have HER := Lib.hid (errV_some hz)
    rw [errV_some hz]
    clear hz HE HV HN
    -- the answer: the bond zBnd (its five), the error .iface 54 (.int .i64 ee); the result's box HBK1.out; above w hB1; the last fact rw [H2.out, H1.out, HER.out]
    have HZ5 := Lib.hid (res5q (q := w.heap.size + 1) (Nat.le_succ _) (.string (zBnd).name) (.string (zBnd).src) (.string (zBnd).dst) (.int .i64 (zBnd).mn) (.int .i64 (zBnd).mx) hB1 HBK1.out)
    -- the cells of the two boxes: HBK1.out: the result's, $2: the bond's
    have r0 := block_cell HBK1.out 0
    have r1 := block_cell HBK1.out 1
    have r2 := block_cell HBK1.out 2
    have r3 := block_cell HBK1.out 3
    have r4 := block_cell HBK1.out 4
    have f0 := block_free HBK1.out 0
    have f1 := block_free HBK1.out 1
    have f2 := block_free HBK1.out 2
    have f3 := block_free HBK1.out 3
    have f4 := block_free HBK1.out 4
    go_wp2_with fail
    obtain ⟨k1, k2⟩ := HZ5.out
    try simp only [zBnd] at k1 k2
    have p0 := block_cell k2 0
    have p1 := block_cell k2 1
    have p2 := block_cell k2 2
    have p3 := block_cell k2 3
    have p4 := block_cell k2 4
    exact bodyPost_ret (v := .tuple #[.agg #[.string (zBnd).name, .string (zBnd).src, .string (zBnd).dst, .int .i64 (zBnd).mn, .int .i64 (zBnd).mx], .iface 54 (.int .i64 ee)]) (by simp [results, Tryz.results13, go_sem, p0, p1, p2, p3, p4, zBnd]) rfl ⟨by rw [H2.out, H1.out, HER.out], k1⟩
  rw [errV_zero hz]
  subst hz
  have x0 := cell_below hb1 X.out.1
  have x1 := cell_below hb1 X.out.2
  have hx := sFind_any s name _ _ w1 (HS.out.below hb1)
  generalize bFind s.bonds name = F at *
  go_wp2_with fail
  refine hx.mono ?_
  clear hx x0 x1
  rintro e w2 ⟨rfl, hb2⟩
  have hB2 := hB1.trans (hb2.mono hB1.size)
  have HBK2 := Lib.hid ((hb2.block _ (Array.getElem?_eq_some_iff.1 HBK1.out).1).trans HBK1.out)
  by_cases hf : F < 0
  · have H1 : Hid (sbE s name = 5) := by unfold Hid; rw [HE.out]; simp [hf]
    have H2 : Hid (sbV s name = zBnd) := by unfold Hid; rw [HV.out, H1.out]; rfl
    have hfd : decide (F < 0) = true := decide_eq_true hf
    clear HE HV HN hf
    -- the answer: the bond zBnd (its five), the error .iface 54 (.int .i64 5); the result's box HBK2.out; above w hB2; the last fact rw [H2.out, H1.out]; rfl
    have HZ5 := Lib.hid (res5q (q := w.heap.size + 1) (Nat.le_succ _) (.string (zBnd).name) (.string (zBnd).src) (.string (zBnd).dst) (.int .i64 (zBnd).mn) (.int .i64 (zBnd).mx) hB2 HBK2.out)
    -- the cells of the two boxes: HBK2.out: the result's, $2: the bond's
    have r0 := block_cell HBK2.out 0
    have r1 := block_cell HBK2.out 1
    have r2 := block_cell HBK2.out 2
    have r3 := block_cell HBK2.out 3
    have r4 := block_cell HBK2.out 4
    have f0 := block_free HBK2.out 0
    have f1 := block_free HBK2.out 1
    have f2 := block_free HBK2.out 2
    have f3 := block_free HBK2.out 3
    have f4 := block_free HBK2.out 4
    go_wp2_with fail
    obtain ⟨k1, k2⟩ := HZ5.out
    try simp only [zBnd] at k1 k2
    have p0 := block_cell k2 0
    have p1 := block_cell k2 1
    have p2 := block_cell k2 2
    have p3 := block_cell k2 3
    have p4 := block_cell k2 4
    exact bodyPost_ret (v := .tuple #[.agg #[.string (zBnd).name, .string (zBnd).src, .string (zBnd).dst, .int .i64 (zBnd).mn, .int .i64 (zBnd).mx], .iface 54 (.int .i64 5)]) (by simp [results, Tryz.results13, go_sem, p0, p1, p2, p3, p4, zBnd]) rfl ⟨by rw [H2.out, H1.out]; rfl, k1⟩
  · obtain ⟨k, d, hd, rfl⟩ := HN.out (by omega)
    have H1 : Hid (sbE s name = 0) := by unfold Hid; rw [HE.out]; simp
    have H2 : Hid (sbV s name = d) := by unfold Hid; rw [HV.out, H1.out, if_pos rfl]; simp [List.getD, hd]
    have hfd : decide ((k : Int) < 0) = false := decide_eq_false hf
    have hb12 := hb1.trans (hb2.mono hb1.size)
    obtain ⟨gb, o, rfl, _, q0, q1, q2, q3, q4⟩ := bnd_at (HS.out.below hb12).2 hd
    have x1 := cell_below hb12 X.out.2
    have hk : k < s.bonds.length := (List.getElem?_eq_some_iff.1 hd).1
    have hk' : (k : Int) < (s.bonds.length : Int) := by omega
    clear HE HV HN hd hb12
    -- the answer: the bond d (its five), the error .nilIface; the result's box HBK2.out; above w hB2; the last fact rw [H2.out, H1.out]; rfl
    have HZ5 := Lib.hid (res5q (q := w.heap.size + 1) (Nat.le_succ _) (.string (d).name) (.string (d).src) (.string (d).dst) (.int .i64 (d).mn) (.int .i64 (d).mx) hB2 HBK2.out)
    -- the cells of the two boxes: HBK2.out: the result's, $2: the bond's
    have r0 := block_cell HBK2.out 0
    have r1 := block_cell HBK2.out 1
    have r2 := block_cell HBK2.out 2
    have r3 := block_cell HBK2.out 3
    have r4 := block_cell HBK2.out 4
    have f0 := block_free HBK2.out 0
    have f1 := block_free HBK2.out 1
    have f2 := block_free HBK2.out 2
    have f3 := block_free HBK2.out 3
    have f4 := block_free HBK2.out 4
    go_wp2_with fail
    obtain ⟨k1, k2⟩ := HZ5.out
    try simp only [zBnd] at k1 k2
    have p0 := block_cell k2 0
    have p1 := block_cell k2 1
    have p2 := block_cell k2 2
    have p3 := block_cell k2 3
    have p4 := block_cell k2 4
    exact bodyPost_ret (v := .tuple #[.agg #[.string (d).name, .string (d).src, .string (d).dst, .int .i64 (d).mn, .int .i64 (d).mx], .nilIface]) (by simp [results, Tryz.results13, go_sem, p0, p1, p2, p3, p4, go_sem]) rfl ⟨by rw [H2.out, H1.out]; rfl, k1⟩
end Go.Proofs.YtfeccicogcnhcaaGreatDoor
