/- Parts: Chk7. -/
import Derived.Test.YthefofclbepkoaaMg22
/- Contracts: check.Faults, check.Conforms, check.NodeFaults. No condition. -/
namespace Go.Proofs.Ythefofclbepkoaa
open Go Go.RowKit

def faultsR (s : Scm) (g : Grf) : List Flt := if readySG s g = 0 then ofF s g else []
def confR (s : Scm) (g : Grf) : Bool := decide (readySG s g = 0) && decide ((faultsR s g).length = 0)
theorem readySG_zero {s : Scm} {g : Grf} (h : readySG s g = 0) : (scmE s).2 = 0 ∧ grfE g = 0 := by
  unfold readySG at h
  split at h
  · rename_i h0; exact ⟨h0, h⟩
  · rename_i h0; exact absurd h h0
def RetF (l : List Flt) (err : Int) (w : World) (e : Ending) (w' : World) : Prop := ∃ u, e = .returned (.tuple #[u, errV err]) ∧ Sl fltL w' u l ∧ Below w.heap.size w w'

set_option maxHeartbeats 1000000 in
theorem faults_any (s : Scm) (g : Grf) (vk vb vn vt : Value) (w : World) (hs : ScmR w vk vb s) (hg : GrfR w vn vt g) :
    Calls Try.prog 18 #[.agg #[vk, vb], .agg #[vn, vt]] w (RetF (faultsR s g) (readySG s g) w) := by
  obtain ⟨A1, c1, rfl, _, _⟩ := hs.1.form
  obtain ⟨A2, c2, rfl, _, _⟩ := hs.2.form
  obtain ⟨A3, c3, rfl, _, _⟩ := hg.1.form
  obtain ⟨A4, c4, rfl, _, _⟩ := hg.2.form
  obtain ⟨W0, hW0⟩ : ∃ W0, W0 = (w.alloc (.cells #[.slice A1 s.kinds.length c1, .slice A2 s.bonds.length c2] 68)).alloc (.cells #[.slice A3 g.nodes.length c3, .slice A4 g.ties.length c4] 43) := ⟨_, rfl⟩
  have hb0 : Below w.heap.size w W0 := by rw [hW0]; exact ((Below.refl _ _).alloc (Nat.le_refl _) _).alloc (by simp) _
  have g0 : W0.heap[w.heap.size]? = some (.cells #[.slice A1 s.kinds.length c1, .slice A2 s.bonds.length c2] 68 (0, 0)) := by
    rw [hW0, Below.heap_alloc _ _ _ (by simp)]; exact heap_alloc_new _ _
  have g1 : W0.heap[w.heap.size + 1]? = some (.cells #[.slice A3 g.nodes.length c3, .slice A4 g.ties.length c4] 43 (0, 0)) := by
    have := heap_alloc_new (w.alloc (.cells #[.slice A1 s.kinds.length c1, .slice A2 s.bonds.length c2] 68)) (.cells #[.slice A3 g.nodes.length c3, .slice A4 g.ties.length c4] 43); rw [hW0]; simpa using this
  have hW0' := hW0.symm
  have HG0 := Lib.hid g0
  have HG1 := Lib.hid g1
  have x0 := block_cell g0 0
  have x1 := block_cell g0 1
  have y0 := block_cell g1 0
  have y1 := block_cell g1 1
  have hw0 := hb0.size
  have hrd := cready_any s g _ _ _ _ W0 (hs.below hb0) (hg.below hb0)
  have HS := Lib.hid (hs.below hb0)
  have HG := Lib.hid (hg.below hb0)
  have HFR : Hid (faultsR s g = if readySG s g = 0 then ofF s g else []) := rfl
  have HZ : Hid (readySG s g = 0 → (scmE s).2 = 0 ∧ grfE g = 0) := readySG_zero
  generalize readySG s g = z at *
  clear hs hg g0 g1 hW0
  go_enter Try.func18, Try.ntmps18
  go_wp2_with fail
  refine hrd.mono ?_
  clear hrd hW0'
  rintro e w1 ⟨rfl, hb1⟩
  have hB1 := hb0.trans (hb1.mono hw0)
  by_cases he : z = 0
  case neg =>
    have HE : Hid (errV z = .iface 82 (.int .i64 z) ∧ faultsR s g = []) := ⟨errV_some he, by rw [HFR.out, if_neg he]⟩
    rw [errV_some he]
    clear he HFR HZ
    go_wp2_with fail
    go_ret2
    exact ⟨.slice none 0 0, by rw [HE.out.1]; rfl, by rw [HE.out.2]; exact Sl.nil 0 (Nat.zero_le _) none, hB1⟩
  have HE : Hid (errV z = .nilIface ∧ faultsR s g = ofF s g) := ⟨errV_zero he, by rw [HFR.out, if_pos he]⟩
  obtain ⟨z1, z2⟩ := HZ.out he
  have hof := of_any s g _ _ _ _ w1 (HS.out.below hb1) (HG.out.below hb1) z1 z2
  have x0 := cell_below hb1 x0
  have x1 := cell_below hb1 x1
  have y0 := cell_below hb1 y0
  have y1 := cell_below hb1 y1
  rw [errV_zero he]
  clear he HFR HZ z1 z2 hb1
  go_wp2_with fail
  refine hof.mono ?_
  clear hof
  rintro e w2 ⟨u, rfl, hu, hb2⟩
  obtain ⟨A5, c5, rfl, _, _⟩ := hu.form
  have HU := Lib.hid hu
  clear hu
  generalize ofF s g = fl at *
  go_wp2_with fail
  go_ret2
  exact ⟨_, by rw [HE.out.1]; rfl, by rw [HE.out.2]; exact HU.out, hB1.trans (hb2.mono hB1.size)⟩
set_option maxHeartbeats 1000000 in
theorem conforms_any (s : Scm) (g : Grf) (vk vb vn vt : Value) (w : World) (hs : ScmR w vk vb s) (hg : GrfR w vn vt g) :
    Calls Try.prog 21 #[.agg #[vk, vb], .agg #[vn, vt]] w fun e w' => e = .returned (.tuple #[.bool (confR s g), errV (readySG s g)]) ∧ Below w.heap.size w w' := by
  obtain ⟨A1, c1, rfl, _, _⟩ := hs.1.form
  obtain ⟨A2, c2, rfl, _, _⟩ := hs.2.form
  obtain ⟨A3, c3, rfl, _, _⟩ := hg.1.form
  obtain ⟨A4, c4, rfl, _, _⟩ := hg.2.form
  obtain ⟨W0, hW0⟩ : ∃ W0, W0 = (w.alloc (.cells #[.slice A1 s.kinds.length c1, .slice A2 s.bonds.length c2] 68)).alloc (.cells #[.slice A3 g.nodes.length c3, .slice A4 g.ties.length c4] 43) := ⟨_, rfl⟩
  have hb0 : Below w.heap.size w W0 := by rw [hW0]; exact ((Below.refl _ _).alloc (Nat.le_refl _) _).alloc (by simp) _
  have g0 : W0.heap[w.heap.size]? = some (.cells #[.slice A1 s.kinds.length c1, .slice A2 s.bonds.length c2] 68 (0, 0)) := by
    rw [hW0, Below.heap_alloc _ _ _ (by simp)]; exact heap_alloc_new _ _
  have g1 : W0.heap[w.heap.size + 1]? = some (.cells #[.slice A3 g.nodes.length c3, .slice A4 g.ties.length c4] 43 (0, 0)) := by
    have := heap_alloc_new (w.alloc (.cells #[.slice A1 s.kinds.length c1, .slice A2 s.bonds.length c2] 68)) (.cells #[.slice A3 g.nodes.length c3, .slice A4 g.ties.length c4] 43); rw [hW0]; simpa using this
  have hW0' := hW0.symm
  have HG0 := Lib.hid g0
  have HG1 := Lib.hid g1
  have x0 := block_cell g0 0
  have x1 := block_cell g0 1
  have y0 := block_cell g1 0
  have y1 := block_cell g1 1
  have hw0 := hb0.size
  have hrd := faults_any s g _ _ _ _ W0 (hs.below hb0) (hg.below hb0)
  have HC : Hid (confR s g = (decide (readySG s g = 0) && decide ((faultsR s g).length = 0))) := rfl
  generalize readySG s g = z at *
  generalize faultsR s g = fl at *
  clear hs hg g0 g1 hW0
  go_enter Try.func21, Try.ntmps21
  go_wp2_with fail
  refine hrd.mono ?_
  clear hrd hW0'
  rintro e w1 ⟨u, rfl, hu, hb1⟩
  obtain ⟨A5, c5, rfl, _, _⟩ := hu.form
  have hB1 := hb0.trans (hb1.mono hw0)
  clear hu
  by_cases he : z = 0
  case neg =>
    have HE : Hid (errV z = .iface 82 (.int .i64 z) ∧ confR s g = false) := ⟨errV_some he, by rw [HC.out, decide_eq_false he]; rfl⟩
    rw [errV_some he]
    clear he HC
    go_wp2_with fail
    go_ret2
    exact ⟨by rw [HE.out.1, HE.out.2]; rfl, hB1⟩
  rw [errV_zero he]
  by_cases hl : fl.length = 0
  · have HE : Hid (errV z = .nilIface ∧ confR s g = true) := ⟨errV_zero he, by rw [HC.out, decide_eq_true he, decide_eq_true hl]; rfl⟩
    have hq : ((fl.length : Int) == 0) = true := by rw [beq_iff_eq]; omega
    clear he HC hl
    generalize fl.length = nl at *
    go_wp2_with fail
    go_ret2
    exact ⟨by rw [HE.out.1, HE.out.2]; rfl, hB1⟩
  · have HE : Hid (errV z = .nilIface ∧ confR s g = false) := ⟨errV_zero he, by rw [HC.out, decide_eq_true he, decide_eq_false hl]; rfl⟩
    have hq : ((fl.length : Int) == 0) = false := by rw [beq_eq_false_iff_ne]; omega
    clear he HC hl
    generalize fl.length = nl at *
    go_wp2_with fail
    go_ret2
    exact ⟨by rw [HE.out.1, HE.out.2]; rfl, hB1⟩

/-! ### A node by itself -/
def nodeFE (s : Scm) (n : Nod) : Int := if (scmE s).2 = 0 then nodE n else (scmE s).2
def nodeFR (s : Scm) (n : Nod) : List Flt := if nodeFE s n = 0 then aloneF s n else []
theorem nodE_rec {n : Nod} (h5 : nodE n = 0) : n.props.length ≤ 8 ∧ chain prpLt n.props = true := by
  unfold nodE at h5
  split at h5
  · simp at h5
  · split at h5
    · obtain ⟨a, _, c⟩ := rec_ok h5
      exact ⟨a, c⟩
    · rename_i h6; exact absurd h5 h6
set_option maxRecDepth 100000 in
set_option maxHeartbeats 2000000 in
theorem nodeFaults_any (s : Scm) (n : Nod) (vk vb u : Value) (w : World) (hs : ScmR w vk vb s) (hid : I64 n.id) (hkd : Sm n.kind) (hu : Sl prpL w u n.props) :
    Calls Try.prog 22 #[.agg #[vk, vb], .agg #[.int .i64 n.id, .string n.kind, u]] w (RetF (nodeFR s n) (nodeFE s n) w) := by
  obtain ⟨A1, c1, rfl, _, _⟩ := hs.1.form
  obtain ⟨A2, c2, rfl, _, _⟩ := hs.2.form
  obtain ⟨A3, c3, rfl, _, _⟩ := hu.form
  obtain ⟨W0, hW0⟩ : ∃ W0, W0 = (w.alloc (.cells #[.slice A1 s.kinds.length c1, .slice A2 s.bonds.length c2] 68)).alloc (.cells #[.int .i64 n.id, .string n.kind, .slice A3 n.props.length c3] 46) := ⟨_, rfl⟩
  have hb0 : Below w.heap.size w W0 := by rw [hW0]; exact ((Below.refl _ _).alloc (Nat.le_refl _) _).alloc (by simp) _
  have g0 : W0.heap[w.heap.size]? = some (.cells #[.slice A1 s.kinds.length c1, .slice A2 s.bonds.length c2] 68 (0, 0)) := by
    rw [hW0, Below.heap_alloc _ _ _ (by simp)]; exact heap_alloc_new _ _
  have g1 : W0.heap[w.heap.size + 1]? = some (.cells #[.int .i64 n.id, .string n.kind, .slice A3 n.props.length c3] 46 (0, 0)) := by
    have := heap_alloc_new (w.alloc (.cells #[.slice A1 s.kinds.length c1, .slice A2 s.bonds.length c2] 68)) (.cells #[.int .i64 n.id, .string n.kind, .slice A3 n.props.length c3] 46); rw [hW0]; simpa using this
  have hW0' := hW0.symm
  have HG0 := Lib.hid g0
  have HG1 := Lib.hid g1
  have x0 := block_cell g0 0
  have x1 := block_cell g0 1
  have hw0 := hb0.size
  have hr1 := sright_any s _ _ _ (hs.below hb0)
  have HS := Lib.hid (hs.below hb0)
  have HU := Lib.hid (hu.below hb0)
  have HFE : Hid (nodeFE s n = if (scmE s).2 = 0 then nodE n else (scmE s).2) := rfl
  have HFR : Hid (nodeFR s n = if nodeFE s n = 0 then aloneF s n else []) := rfl
  have HR : Hid ((scmE s).2 = 0 → Right s.kinds ∧ s.bonds.length ≤ 12) := scm_right
  generalize nodeFE s n = ze at *
  generalize (scmE s).2 = z at *
  clear hs hu g0 g1 hW0
  go_enter Try.func22, Try.ntmps22
  go_wp2_with fail
  refine hr1.mono ?_
  clear hr1 hW0'
  rintro e w1 ⟨rfl, hb1⟩
  have hB1 := hb0.trans (hb1.mono hw0)
  by_cases he : z = 0
  case neg =>
    have h1 : ze = z := by rw [HFE.out, if_neg he]
    have HE : Hid (errV ze = .iface 82 (.int .i64 z) ∧ nodeFR s n = []) := ⟨by rw [h1]; exact errV_some he, by rw [HFR.out, if_neg (by rw [h1]; exact he)]⟩
    rw [errV_some he]
    clear he HFR HFE h1
    go_wp2_with fail
    go_ret2
    exact ⟨.slice none 0 0, by rw [HE.out.1]; rfl, by rw [HE.out.2]; exact Sl.nil 0 (Nat.zero_le _) none, hB1⟩
  obtain ⟨hright, hbl⟩ := HR.out he
  have HFE1 : Hid (ze = nodE n) := by unfold Hid; rw [HFE.out, if_pos he]
  have hq1 := (hb1.block _ (Array.getElem?_eq_some_iff.1 HG1.out).1).trans HG1.out
  have y0 := block_cell hq1 0
  have y1 := block_cell hq1 1
  have y2 := block_cell hq1 2
  have hr2 := ofNode_any n _ w1 hkd (HU.out.below hb1)
  have HNR : Hid (nodE n = 0 → n.props.length ≤ 8 ∧ chain prpLt n.props = true) := nodE_rec
  rw [errV_zero he]
  generalize nodE n = z2 at *
  clear he HFE HR hq1 x0 x1
  go_wp2_with fail
  refine hr2.mono ?_
  clear hr2 y0 y1 y2
  rintro e w2 ⟨rfl, hb2⟩
  have hB2 := hB1.trans (hb2.mono hB1.size)
  by_cases he : z2 = 0
  case neg =>
    have h1 : ze = z2 := HFE1.out
    have HE : Hid (errV ze = .iface 82 (.int .i64 z2) ∧ nodeFR s n = []) := ⟨by rw [h1]; exact errV_some he, by rw [HFR.out, if_neg (by rw [h1]; exact he)]⟩
    rw [errV_some he]
    clear he HFR HFE1 h1
    go_wp2_with fail
    go_ret2
    exact ⟨.slice none 0 0, by rw [HE.out.1]; rfl, by rw [HE.out.2]; exact Sl.nil 0 (Nat.zero_le _) none, hB2⟩
  have HE : Hid (errV ze = .nilIface ∧ nodeFR s n = aloneF s n) := by
    have h1 : ze = 0 := HFE1.out.trans he
    exact ⟨errV_zero h1, by rw [HFR.out, if_pos h1]⟩
  obtain ⟨hp8, hpc⟩ := HNR.out he
  have hb12 := hb1.trans (hb2.mono hb1.size)
  have hq0 := (hb12.block _ (Array.getElem?_eq_some_iff.1 HG0.out).1).trans HG0.out
  have hq1 := (hb12.block _ (Array.getElem?_eq_some_iff.1 HG1.out).1).trans HG1.out
  have x0 := block_cell hq0 0
  have x1 := block_cell hq0 1
  have hok := hright.ck
  have hk8 := kfl_len hright n.kind
  rw [errV_zero he]
  clear he HFE1 HFR HNR
  go_upto_region 8 with fail
  have ha2 : Below w2.heap.size w2 (w2.alloc (.cells #[.slice A1 s.kinds.length c1, .slice A2 s.bonds.length c2, .slice none 0 0, .slice none 0 0, .slice none 0 0, .map none] 113)) := (Below.refl _ _).alloc (Nat.le_refl _) _
  have hcq := heap_alloc_new w2 (.cells #[.slice A1 s.kinds.length c1, .slice A2 s.bonds.length c2, .slice none 0 0, .slice none 0 0, .slice none 0 0, .map none] 113)
  have hck : Ck w2.heap.size (w2.alloc (.cells #[.slice A1 s.kinds.length c1, .slice A2 s.bonds.length c2, .slice none 0 0, .slice none 0 0, .slice none 0 0, .map none] 113)) w2.heap.size (.slice A1 s.kinds.length c1) (.slice A2 s.bonds.length c2) (.slice none 0 0) (.slice none 0 0) (.map none) (.slice none 0 0) [] :=
    ⟨hcq, Nat.le_refl _, Own.nil _ _ _ _, by simp⟩
  have hq1 := (ha2.block _ (Array.getElem?_eq_some_iff.1 hq1).1).trans hq1
  generalize w2.alloc (.cells #[.slice A1 s.kinds.length c1, .slice A2 s.bonds.length c2, .slice none 0 0, .slice none 0 0, .slice none 0 0, .map none] 113) = w3 at *
  have hal := alone_any w2.heap.size w2.heap.size _ _ (.slice none 0 0) (.slice none 0 0) (.map none) _ [] s n _ w2 w3 rfl ha2 hck (HS.out.below hb12) hok (HU.out.below hb12) hid hkd hpc (by omega) (by omega) (by simp)
  have y0 := block_cell hq1 0
  have y1 := block_cell hq1 1
  have y2 := block_cell hq1 2
  clear hck hcq hq0 hq1 x0 x1
  go_wp2_with fail
  refine hal.mono ?_
  clear hal y0 y1 y2
  rintro e w4 ⟨v4, rfl, _, _, ht⟩
  obtain ⟨out4, hc4⟩ := ht.c
  rw [List.nil_append] at hc4
  have m4 := block_cell hc4.q 4
  generalize aloneF s n = fl at *
  obtain ⟨A5, c5, rfl, _, _⟩ := hc4.o.form
  have HC := Lib.hid hc4
  have hb34 : Below w2.heap.size w2 w4 := ha2.trans ht.b
  clear ht hc4
  go_wp2_with fail
  go_ret2
  exact ⟨_, by rw [HE.out.1]; rfl, by rw [HE.out.2]; exact Own.flat Flt.enc_len HC.out.k HC.out.o, hB2.trans (hb34.mono hB2.size)⟩
end Go.Proofs.Ythefofclbepkoaa
