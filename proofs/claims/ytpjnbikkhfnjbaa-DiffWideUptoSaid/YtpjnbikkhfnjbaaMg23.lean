/- Parts: Chk7, DwW. -/
import Derived.Test.YtpjnbikkhfnjbaaMg22
import Derived.Test.YtpjnbikkhfnjbaaMg19
import Derived.Test.YtpjnbikkhfnjbaaMg20
/- Contracts: check.Faults, check.Conforms, check.NodeFaults. No condition. -/
namespace Go.Proofs.Ytpjnbikkhfnjbaa
open Go Go.RowKit

def faultsR (s : Scm) (g : Grf) : List Flt := if readySG s g = 0 then ofF s g else []
def confR (s : Scm) (g : Grf) : Bool := decide (readySG s g = 0) && decide ((faultsR s g).length = 0)
theorem readySG_zero {s : Scm} {g : Grf} (h : readySG s g = 0) : (scmE s).2 = 0 ∧ grfE g = 0 := by
  unfold readySG at h
  split at h
  · rename_i h0; exact ⟨h0, h⟩
  · rename_i h0; exact absurd h h0
def RetF (l : List Flt) (err : Int) (w : World) (e : Ending) (w' : World) : Prop := ∃ u, e = .returned (.tuple #[u, errV err]) ∧ Sl fltL w' u l ∧ Below w.heap.size w w'

set_option maxHeartbeats 1000000 in
theorem faults_any (s : Scm) (g : Grf) (vk vb vn vt : Value) (w : World) (hs : ScmR w vk vb s) (hg : GrfR w vn vt g) :
    Calls Try.prog 14 #[.agg #[vk, vb], .agg #[vn, vt]] w (RetF (faultsR s g) (readySG s g) w) := by
  obtain ⟨A1, c1, rfl, _, _⟩ := hs.1.form
  obtain ⟨A2, c2, rfl, _, _⟩ := hs.2.form
  obtain ⟨A3, c3, rfl, _, _⟩ := hg.1.form
  obtain ⟨A4, c4, rfl, _, _⟩ := hg.2.form
  obtain ⟨W0, hW0⟩ : ∃ W0, W0 = (w.alloc (.cells #[.slice A1 s.kinds.length c1, .slice A2 s.bonds.length c2] 25)).alloc (.cells #[.slice A3 g.nodes.length c3, .slice A4 g.ties.length c4] 29) := ⟨_, rfl⟩
  have hb0 : Below w.heap.size w W0 := by rw [hW0]; exact ((Below.refl _ _).alloc (Nat.le_refl _) _).alloc (by simp) _
  have g0 : W0.heap[w.heap.size]? = some (.cells #[.slice A1 s.kinds.length c1, .slice A2 s.bonds.length c2] 25 (0, 0)) := by
    rw [hW0, Below.heap_alloc _ _ _ (by simp)]; exact heap_alloc_new _ _
  have g1 : W0.heap[w.heap.size + 1]? = some (.cells #[.slice A3 g.nodes.length c3, .slice A4 g.ties.length c4] 29 (0, 0)) := by
    have := heap_alloc_new (w.alloc (.cells #[.slice A1 s.kinds.length c1, .slice A2 s.bonds.length c2] 25)) (.cells #[.slice A3 g.nodes.length c3, .slice A4 g.ties.length c4] 29); rw [hW0]; simpa using this
  have hW0' := hW0.symm
  have HG0 := Lib.hid g0
  have HG1 := Lib.hid g1
  have x0 := block_cell g0 0
  have x1 := block_cell g0 1
  have y0 := block_cell g1 0
  have y1 := block_cell g1 1
  have hw0 := hb0.size
  have hrd := cready_any s g _ _ _ _ W0 (hs.below hb0) (hg.below hb0)
  have HS := Lib.hid (hs.below hb0)
  have HG := Lib.hid (hg.below hb0)
  have HFR : Hid (faultsR s g = if readySG s g = 0 then ofF s g else []) := rfl
  have HZ : Hid (readySG s g = 0 → (scmE s).2 = 0 ∧ grfE g = 0) := readySG_zero
  generalize readySG s g = z at *
  clear hs hg g0 g1 hW0
  go_enter Try.func14, Try.ntmps14
  go_wp2_with fail
  refine hrd.mono ?_
  clear hrd hW0'
  rintro e w1 ⟨rfl, hb1⟩
  have hB1 := hb0.trans (hb1.mono hw0)
  by_cases he : z = 0
  case neg =>
    have HE : Hid (errV z = .iface 83 (.int .i64 z) ∧ faultsR s g = []) := ⟨errV_some he, by rw [HFR.out, if_neg he]⟩
    rw [errV_some he]
    clear he HFR HZ
    go_wp2_with fail
    go_ret2
    exact ⟨.slice none 0 0, by rw [HE.out.1]; rfl, by rw [HE.out.2]; exact Sl.nil 0 (Nat.zero_le _) none, hB1⟩
  have HE : Hid (errV z = .nilIface ∧ faultsR s g = ofF s g) := ⟨errV_zero he, by rw [HFR.out, if_pos he]⟩
  obtain ⟨z1, z2⟩ := HZ.out he
  have hof := of_any s g _ _ _ _ w1 (HS.out.below hb1) (HG.out.below hb1) z1 z2
  have x0 := cell_below hb1 x0
  have x1 := cell_below hb1 x1
  have y0 := cell_below hb1 y0
  have y1 := cell_below hb1 y1
  rw [errV_zero he]
  clear he HFR HZ z1 z2 hb1
  go_wp2_with fail
  refine hof.mono ?_
  clear hof
  rintro e w2 ⟨u, rfl, hu, hb2⟩
  obtain ⟨A5, c5, rfl, _, _⟩ := hu.form
  have HU := Lib.hid hu
  clear hu
  generalize ofF s g = fl at *
  go_wp2_with fail
  go_ret2
  exact ⟨_, by rw [HE.out.1]; rfl, by rw [HE.out.2]; exact HU.out, hB1.trans (hb2.mono hB1.size)⟩
set_option maxHeartbeats 1000000 in
theorem conforms_any (s : Scm) (g : Grf) (vk vb vn vt : Value) (w : World) (hs : ScmR w vk vb s) (hg : GrfR w vn vt g) :
    Calls Try.prog 5 #[.agg #[vk, vb], .agg #[vn, vt]] w fun e w' => e = .returned (.tuple #[.bool (confR s g), errV (readySG s g)]) ∧ Below w.heap.size w w' := by
  obtain ⟨A1, c1, rfl, _, _⟩ := hs.1.form
  obtain ⟨A2, c2, rfl, _, _⟩ := hs.2.form
  obtain ⟨A3, c3, rfl, _, _⟩ := hg.1.form
  obtain ⟨A4, c4, rfl, _, _⟩ := hg.2.form
  obtain ⟨W0, hW0⟩ : ∃ W0, W0 = (w.alloc (.cells #[.slice A1 s.kinds.length c1, .slice A2 s.bonds.length c2] 25)).alloc (.cells #[.slice A3 g.nodes.length c3, .slice A4 g.ties.length c4] 29) := ⟨_, rfl⟩
  have hb0 : Below w.heap.size w W0 := by rw [hW0]; exact ((Below.refl _ _).alloc (Nat.le_refl _) _).alloc (by simp) _
  have g0 : W0.heap[w.heap.size]? = some (.cells #[.slice A1 s.kinds.length c1, .slice A2 s.bonds.length c2] 25 (0, 0)) := by
    rw [hW0, Below.heap_alloc _ _ _ (by simp)]; exact heap_alloc_new _ _
  have g1 : W0.heap[w.heap.size + 1]? = some (.cells #[.slice A3 g.nodes.length c3, .slice A4 g.ties.length c4] 29 (0, 0)) := by
    have := heap_alloc_new (w.alloc (.cells #[.slice A1 s.kinds.length c1, .slice A2 s.bonds.length c2] 25)) (.cells #[.slice A3 g.nodes.length c3, .slice A4 g.ties.length c4] 29); rw [hW0]; simpa using this
  have hW0' := hW0.symm
  have HG0 := Lib.hid g0
  have HG1 := Lib.hid g1
  have x0 := block_cell g0 0
  have x1 := block_cell g0 1
  have y0 := block_cell g1 0
  have y1 := block_cell g1 1
  have hw0 := hb0.size
  have hrd := faults_any s g _ _ _ _ W0 (hs.below hb0) (hg.below hb0)
  have HC : Hid (confR s g = (decide (readySG s g = 0) && decide ((faultsR s g).length = 0))) := rfl
  generalize readySG s g = z at *
  generalize faultsR s g = fl at *
  clear hs hg g0 g1 hW0
  go_enter Try.func5, Try.ntmps5
  go_wp2_with fail
  refine hrd.mono ?_
  clear hrd hW0'
  rintro e w1 ⟨u, rfl, hu, hb1⟩
  obtain ⟨A5, c5, rfl, _, _⟩ := hu.form
  have hB1 := hb0.trans (hb1.mono hw0)
  clear hu
  by_cases he : z = 0
  case neg =>
    have HE : Hid (errV z = .iface 83 (.int .i64 z) ∧ confR s g = false) := ⟨errV_some he, by rw [HC.out, decide_eq_false he]; rfl⟩
    rw [errV_some he]
    clear he HC
    go_wp2_with fail
    go_ret2
    exact ⟨by rw [HE.out.1, HE.out.2]; rfl, hB1⟩
  rw [errV_zero he]
  by_cases hl : fl.length = 0
  · have HE : Hid (errV z = .nilIface ∧ confR s g = true) := ⟨errV_zero he, by rw [HC.out, decide_eq_true he, decide_eq_true hl]; rfl⟩
    have hq : ((fl.length : Int) == 0) = true := by rw [beq_iff_eq]; omega
    clear he HC hl
    generalize fl.length = nl at *
    go_wp2_with fail
    go_ret2
    exact ⟨by rw [HE.out.1, HE.out.2]; rfl, hB1⟩
  · have HE : Hid (errV z = .nilIface ∧ confR s g = false) := ⟨errV_zero he, by rw [HC.out, decide_eq_true he, decide_eq_false hl]; rfl⟩
    have hq : ((fl.length : Int) == 0) = false := by rw [beq_eq_false_iff_ne]; omega
    clear he HC hl
    generalize fl.length = nl at *
    go_wp2_with fail
    go_ret2
    exact ⟨by rw [HE.out.1, HE.out.2]; rfl, hB1⟩

/-! ### A node by itself -/
def nodeFE (s : Scm) (n : Nod) : Int := if (scmE s).2 = 0 then nodE n else (scmE s).2
def nodeFR (s : Scm) (n : Nod) : List Flt := if nodeFE s n = 0 then aloneF s n else []
theorem nodE_rec {n : Nod} (h5 : nodE n = 0) : n.props.length ≤ 8 ∧ chain prpLt n.props = true := by
  unfold nodE at h5
  split at h5
  · simp at h5
  · split at h5
    · obtain ⟨a, _, c⟩ := rec_ok h5
      exact ⟨a, c⟩
    · rename_i h6; exact absurd h5 h6
end Go.Proofs.Ytpjnbikkhfnjbaa

/- Contract: the law DiffWide answers true. -/
namespace Go.Proofs.Ytpjnbikkhfnjbaa
open Go Go.RowKit

def dwS (m : Bool) : Scm := ⟨[⟨⟨#[97]⟩, [], [⟨⟨#[120]⟩, 1, m, false⟩]⟩], []⟩
theorem dw_one : bothE (dwS true) (dwS false) = 0 ∧ widerR (dwS true) (dwS false) = true := by decide +kernel
theorem dw_two : bothE (dwS false) (dwS true) = 0 ∧ widerR (dwS false) (dwS true) = false := by decide +kernel
theorem dw_scm {W : World} {fb kb : Nat} {fr fr' : Nat × Nat} {m : Bool} (gf : W.heap[fb]? = some (.cells #[.string ⟨#[120]⟩, .int .i64 1, .bool m, .bool false] 31 fr))
    (gk : W.heap[kb]? = some (.cells #[.string ⟨#[97]⟩, .slice none 0 0, .slice (some ⟨fb, 0, none⟩) 1 1] 35 fr')) : ScmR W (.slice (some ⟨kb, 0, none⟩) 1 1) (.slice none 0 0) (dwS m) := by
  refine ⟨⟨_, 1, rfl, Nat.le_refl _, by unfold maxLen; omega, fun i d hi => ?_⟩, Sl.nil 0 (Nat.zero_le _) none⟩
  have hS : Sm ⟨#[97]⟩ := by unfold Sm; show 1 ≤ 1048576; omega
  have hX : Sm ⟨#[120]⟩ := by unfold Sm; show 1 ≤ 1048576; omega
  match i, hi with
  | 0, hi =>
    injection hi with hi; subst hi
    refine ⟨_, _, [.string ⟨#[97]⟩, .slice none 0 0, .slice (some ⟨fb, 0, none⟩) 1 1], rfl, ⟨_, _, rfl, hS, Sl.nil 0 (Nat.zero_le _) none, ?_⟩, fun j u hj => ?_⟩
    · exact sl_block (t := 31) (fr := fr) Fld.enc_len [⟨⟨#[120]⟩, 1, m, false⟩] (fun x hx => by simp at hx; subst hx; exact ⟨hX, by show I64 (1 : Int); unfold I64; omega⟩) 1 (by simp) (by simp [maxLen]) gf
    · match j, hj with
      | 0, hj => injection hj with hj; subst hj; exact cell_of_row W kb 0 _ _ _ gk
      | 1, hj => injection hj with hj; subst hj; exact cell_of_row W kb 1 _ _ _ gk
      | 2, hj => injection hj with hj; subst hj; exact cell_of_row W kb 2 _ _ _ gk
theorem dw_box (W : World) (m : Bool) : Below W.heap.size W (((W.alloc (.cells #[.string ⟨#[120]⟩, .int .i64 1, .bool m, .bool false] 31)).alloc (.cells #[.string ⟨#[97]⟩, .slice none 0 0, .slice (some ⟨W.heap.size, 0, none⟩) 1 1] 35)).alloc (.cells #[.slice (some ⟨W.heap.size + 1, 0, none⟩) 1 1, .slice none 0 0] 25)) ∧ ScmR (((W.alloc (.cells #[.string ⟨#[120]⟩, .int .i64 1, .bool m, .bool false] 31)).alloc (.cells #[.string ⟨#[97]⟩, .slice none 0 0, .slice (some ⟨W.heap.size, 0, none⟩) 1 1] 35)).alloc (.cells #[.slice (some ⟨W.heap.size + 1, 0, none⟩) 1 1, .slice none 0 0] 25)) (.slice (some ⟨W.heap.size + 1, 0, none⟩) 1 1) (.slice none 0 0) (dwS m) ∧
    (((W.alloc (.cells #[.string ⟨#[120]⟩, .int .i64 1, .bool m, .bool false] 31)).alloc (.cells #[.string ⟨#[97]⟩, .slice none 0 0, .slice (some ⟨W.heap.size, 0, none⟩) 1 1] 35)).alloc (.cells #[.slice (some ⟨W.heap.size + 1, 0, none⟩) 1 1, .slice none 0 0] 25)).heap[W.heap.size + 1 + 1]? = some (.cells #[.slice (some ⟨W.heap.size + 1, 0, none⟩) 1 1, .slice none 0 0] 25 (0, 0)) := by
  refine ⟨(((Below.refl _ _).alloc (Nat.le_refl _) _).alloc (by simp) _).alloc (by simp; omega) _, dw_scm (fb := W.heap.size) (fr := (0, 0)) (fr' := (0, 0)) ?_ ?_, ?_⟩
  · rw [Below.heap_alloc _ _ _ (by simp; omega), Below.heap_alloc _ _ _ (by simp)]; exact heap_alloc_new _ _
  · rw [Below.heap_alloc _ _ _ (by simp)]
    have := heap_alloc_new (W.alloc (.cells #[.string ⟨#[120]⟩, .int .i64 1, .bool m, .bool false] 31)) (.cells #[.string ⟨#[97]⟩, .slice none 0 0, .slice (some ⟨W.heap.size, 0, none⟩) 1 1] 35); simpa using this
  · have := heap_alloc_new ((W.alloc (.cells #[.string ⟨#[120]⟩, .int .i64 1, .bool m, .bool false] 31)).alloc (.cells #[.string ⟨#[97]⟩, .slice none 0 0, .slice (some ⟨W.heap.size, 0, none⟩) 1 1] 35)) (.cells #[.slice (some ⟨W.heap.size + 1, 0, none⟩) 1 1, .slice none 0 0] 25); simpa using this
/-- What the law turns on. -/
theorem dw_law {a b c : Scm} {g : Grf} (h : bothE a b = 0) : (bothE a a = 0 ∧ widerR a a = true) ∧ bothE b c = (scmE c).2 ∧ bothE a c = (scmE c).2 ∧ ((scmE c).2 = 0 → widerR a b = true → widerR b c = true → widerR a c = true) ∧ readySG a g = grfE g ∧ readySG b g = grfE g ∧
    (grfE g = 0 → widerR a b = true → confR a g = true → confR b g = true) := by
  have ha : (scmE a).2 = 0 := by
    unfold bothE at h
    split at h
    · assumption
    · exact h
  have hb : (scmE b).2 = 0 := by
    unfold bothE at h
    rw [if_pos ha] at h; exact h
  have haa : bothE a a = 0 := by unfold bothE; rw [if_pos ha, ha]
  have hbc : bothE b c = (scmE c).2 := by unfold bothE; rw [if_pos hb]
  have hac : bothE a c = (scmE c).2 := by unfold bothE; rw [if_pos ha]
  have hra : readySG a g = grfE g := by unfold readySG; rw [if_pos ha]
  have hrb : readySG b g = grfE g := by unfold readySG; rw [if_pos hb]
  refine ⟨⟨haa, ?_⟩, hbc, hac, fun hc h1 h2 => ?_, hra, hrb, fun hg h1 h2 => ?_⟩
  · unfold widerR; rw [if_pos haa]; exact wider_self (scmE_zero ha)
  · unfold widerR at h1 h2 ⊢
    rw [if_pos h] at h1
    rw [if_pos (hbc.trans hc)] at h2
    rw [if_pos (hac.trans hc)]
    exact wider_trans (scmE_zero hc) h1 h2
  · unfold widerR at h1
    rw [if_pos h] at h1
    unfold confR faultsR at h2 ⊢
    rw [hra, if_pos hg] at h2
    rw [hrb, if_pos hg]
    simp only [Bool.and_eq_true, decide_eq_true_eq] at h2 ⊢
    refine ⟨hg, ?_⟩
    rw [of_wide (scmE_zero ha) (scmE_zero hb) h1 (fun n hn => ((grf_ok hg).2.2.2 n hn).2) (List.eq_nil_of_length_eq_zero h2.2)]
    rfl
set_option maxRecDepth 100000 in
set_option maxHeartbeats 16000000 in
theorem diffWide_any (a b c : Scm) (g : Grf) (k1 b1 k2 b2 k3 b3 vn vt : Value) (w : World) (h1 : ScmR w k1 b1 a) (h2 : ScmR w k2 b2 b) (h3 : ScmR w k3 b3 c) (hg : GrfR w vn vt g) :
    Calls Try.prog 3 #[.agg #[k1, b1], .agg #[k2, b2], .agg #[k3, b3], .agg #[vn, vt]] w fun e w' => e = .returned (.bool true) ∧ Below w.heap.size w w' := by
  obtain ⟨A1, c1, rfl, _, _⟩ := h1.1.form
  obtain ⟨A2, c2, rfl, _, _⟩ := h1.2.form
  obtain ⟨A3, c3, rfl, _, _⟩ := h2.1.form
  obtain ⟨A4, c4, rfl, _, _⟩ := h2.2.form
  obtain ⟨A5, c5, rfl, _, _⟩ := h3.1.form
  obtain ⟨A6, c6, rfl, _, _⟩ := h3.2.form
  obtain ⟨A7, c7, rfl, _, _⟩ := hg.1.form
  obtain ⟨A8, c8, rfl, _, _⟩ := hg.2.form
  obtain ⟨W0, hW0⟩ : ∃ W0, W0 = (((w.alloc (.cells #[.slice A1 a.kinds.length c1, .slice A2 a.bonds.length c2] 25)).alloc (.cells #[.slice A3 b.kinds.length c3, .slice A4 b.bonds.length c4] 25)).alloc (.cells #[.slice A5 c.kinds.length c5, .slice A6 c.bonds.length c6] 25)).alloc (.cells #[.slice A7 g.nodes.length c7, .slice A8 g.ties.length c8] 29) := ⟨_, rfl⟩
  have hb0 : Below w.heap.size w W0 := by rw [hW0]; exact ((((Below.refl _ _).alloc (Nat.le_refl _) _).alloc (by simp) _).alloc (by simp; omega) _).alloc (by simp; omega) _
  have q0 : W0.heap[w.heap.size]? = some (.cells #[.slice A1 a.kinds.length c1, .slice A2 a.bonds.length c2] 25 (0, 0)) := by
    rw [hW0, Below.heap_alloc _ _ _ (by simp; omega), Below.heap_alloc _ _ _ (by simp; omega), Below.heap_alloc _ _ _ (by simp)]; exact heap_alloc_new _ _
  have q1 : W0.heap[w.heap.size + 1]? = some (.cells #[.slice A3 b.kinds.length c3, .slice A4 b.bonds.length c4] 25 (0, 0)) := by
    rw [hW0, Below.heap_alloc _ _ _ (by simp +arith), Below.heap_alloc _ _ _ (by simp)]
    have := heap_alloc_new (w.alloc (.cells #[.slice A1 a.kinds.length c1, .slice A2 a.bonds.length c2] 25)) (.cells #[.slice A3 b.kinds.length c3, .slice A4 b.bonds.length c4] 25); simpa using this
  have q2 : W0.heap[w.heap.size + 1 + 1]? = some (.cells #[.slice A5 c.kinds.length c5, .slice A6 c.bonds.length c6] 25 (0, 0)) := by
    rw [hW0, Below.heap_alloc _ _ _ (by simp)]
    have := heap_alloc_new ((w.alloc (.cells #[.slice A1 a.kinds.length c1, .slice A2 a.bonds.length c2] 25)).alloc (.cells #[.slice A3 b.kinds.length c3, .slice A4 b.bonds.length c4] 25)) (.cells #[.slice A5 c.kinds.length c5, .slice A6 c.bonds.length c6] 25); simpa using this
  have q3 : W0.heap[w.heap.size + 1 + 1 + 1]? = some (.cells #[.slice A7 g.nodes.length c7, .slice A8 g.ties.length c8] 29 (0, 0)) := by
    have := heap_alloc_new (((w.alloc (.cells #[.slice A1 a.kinds.length c1, .slice A2 a.bonds.length c2] 25)).alloc (.cells #[.slice A3 b.kinds.length c3, .slice A4 b.bonds.length c4] 25)).alloc (.cells #[.slice A5 c.kinds.length c5, .slice A6 c.bonds.length c6] 25)) (.cells #[.slice A7 g.nodes.length c7, .slice A8 g.ties.length c8] 29); rw [hW0]; simpa using this
  have hW0' := hW0.symm
  have X0 := Lib.hid (block_cell q0 0)
  have X1 := Lib.hid (block_cell q0 1)
  have Y0 := Lib.hid (block_cell q1 0)
  have Y1 := Lib.hid (block_cell q1 1)
  have Z0 := Lib.hid (block_cell q2 0)
  have Z1 := Lib.hid (block_cell q2 1)
  have V0 := Lib.hid (block_cell q3 0)
  have V1 := Lib.hid (block_cell q3 1)
  have HA := Lib.hid (h1.below hb0)
  have HB := Lib.hid (h2.below hb0)
  have HC := Lib.hid (h3.below hb0)
  have HG := Lib.hid (hg.below hb0)
  clear q0 q1 q2 q3 h1 h2 h3 hg hW0
  have HAB : Hid (∀ W, Below W0.heap.size W0 W → Calls Try.prog 4 #[.agg #[.slice A1 a.kinds.length c1, .slice A2 a.bonds.length c2], .agg #[.slice A3 b.kinds.length c3, .slice A4 b.bonds.length c4]] W fun e w' => e = .returned (.tuple #[.bool (widerR a b), errV (bothE a b)]) ∧ Below W.heap.size W w') := fun W h => wider_any a b _ _ _ _ W (HA.out.below h) (HB.out.below h)
  have HAA : Hid (∀ W, Below W0.heap.size W0 W → Calls Try.prog 4 #[.agg #[.slice A1 a.kinds.length c1, .slice A2 a.bonds.length c2], .agg #[.slice A1 a.kinds.length c1, .slice A2 a.bonds.length c2]] W fun e w' => e = .returned (.tuple #[.bool (widerR a a), errV (bothE a a)]) ∧ Below W.heap.size W w') := fun W h => wider_any a a _ _ _ _ W (HA.out.below h) (HA.out.below h)
  have HBC : Hid (∀ W, Below W0.heap.size W0 W → Calls Try.prog 4 #[.agg #[.slice A3 b.kinds.length c3, .slice A4 b.bonds.length c4], .agg #[.slice A5 c.kinds.length c5, .slice A6 c.bonds.length c6]] W fun e w' => e = .returned (.tuple #[.bool (widerR b c), errV (bothE b c)]) ∧ Below W.heap.size W w') := fun W h => wider_any b c _ _ _ _ W (HB.out.below h) (HC.out.below h)
  have HAC : Hid (∀ W, Below W0.heap.size W0 W → Calls Try.prog 4 #[.agg #[.slice A1 a.kinds.length c1, .slice A2 a.bonds.length c2], .agg #[.slice A5 c.kinds.length c5, .slice A6 c.bonds.length c6]] W fun e w' => e = .returned (.tuple #[.bool (widerR a c), errV (bothE a c)]) ∧ Below W.heap.size W w') := fun W h => wider_any a c _ _ _ _ W (HA.out.below h) (HC.out.below h)
  have HPA : Hid (∀ W, Below W0.heap.size W0 W → Calls Try.prog 5 #[.agg #[.slice A1 a.kinds.length c1, .slice A2 a.bonds.length c2], .agg #[.slice A7 g.nodes.length c7, .slice A8 g.ties.length c8]] W fun e w' => e = .returned (.tuple #[.bool (confR a g), errV (readySG a g)]) ∧ Below W.heap.size W w') := fun W h => conforms_any a g _ _ _ _ W (HA.out.below h) (HG.out.below h)
  have HPB : Hid (∀ W, Below W0.heap.size W0 W → Calls Try.prog 5 #[.agg #[.slice A3 b.kinds.length c3, .slice A4 b.bonds.length c4], .agg #[.slice A7 g.nodes.length c7, .slice A8 g.ties.length c8]] W fun e w' => e = .returned (.tuple #[.bool (confR b g), errV (readySG b g)]) ∧ Below W.heap.size W w') := fun W h => conforms_any b g _ _ _ _ W (HB.out.below h) (HG.out.below h)
  have PL := Lib.hid (dw_law (a := a) (b := b) (c := c) (g := g))
  generalize bothE a b = zab at *
  generalize widerR a b = X at *
  generalize bothE a a = zaa at *
  generalize widerR a a = XA at *
  generalize bothE b c = zbc at *
  generalize widerR b c = Y at *
  generalize bothE a c = zac at *
  generalize widerR a c = Z at *
  generalize confR a g = P at *
  generalize confR b g = Q at *
  generalize readySG a g = za at *
  generalize readySG b g = zb at *
  generalize grfE g = zg at *
  generalize (scmE c).2 = zc at *
  clear HA HB HC HG
  go_enter Try.func3, Try.ntmps3
  go_upto_region 1 with fail
  clear hW0'
  go_upto_region 2 with fail
  obtain ⟨hbA, S1, g1⟩ := dw_box W0 true
  generalize ((W0.alloc (.cells #[.string ⟨#[120]⟩, .int .i64 1, .bool true, .bool false] 31)).alloc (.cells #[.string ⟨#[97]⟩, .slice none 0 0, .slice (some ⟨W0.heap.size, 0, none⟩) 1 1] 35)).alloc (.cells #[.slice (some ⟨W0.heap.size + 1, 0, none⟩) 1 1, .slice none 0 0] 25) = W1 at *
  go_upto_region 3 with fail
  obtain ⟨hbB, S2, g2⟩ := dw_box W1 false
  generalize ((W1.alloc (.cells #[.string ⟨#[120]⟩, .int .i64 1, .bool false, .bool false] 31)).alloc (.cells #[.string ⟨#[97]⟩, .slice none 0 0, .slice (some ⟨W1.heap.size, 0, none⟩) 1 1] 35)).alloc (.cells #[.slice (some ⟨W1.heap.size + 1, 0, none⟩) 1 1, .slice none 0 0] 25) = W2 at *
  have hB2 := hbA.trans (hbB.mono hbA.size)
  have P0 := Lib.hid (cell_below hbB (block_cell g1 0))
  have P1 := Lib.hid (cell_below hbB (block_cell g1 1))
  have R0 := Lib.hid (block_cell g2 0)
  have R1 := Lib.hid (block_cell g2 1)
  have S1 := Lib.hid (S1.below hbB)
  have S2 := Lib.hid S2
  clear g1 g2 hbA hbB
  have p0 := P0.out
  have p1 := P1.out
  have r0 := R0.out
  have r1 := R1.out
  have hx := wider_any (dwS true) (dwS false) _ _ _ _ W2 S1.out S2.out
  rw [dw_one.1, dw_one.2, errV_zero rfl] at hx
  go_wp2_with fail
  refine hx.mono ?_
  clear hx p0 p1 r0 r1
  rintro e W3 ⟨rfl, hb3⟩
  have p0 := cell_below hb3 P0.out
  have p1 := cell_below hb3 P1.out
  have r0 := cell_below hb3 R0.out
  have r1 := cell_below hb3 R1.out
  have hx := wider_any (dwS false) (dwS true) _ _ _ _ W3 (S2.out.below hb3) (S1.out.below hb3)
  rw [dw_two.1, dw_two.2, errV_zero rfl] at hx
  go_wp2_with fail
  refine hx.mono ?_
  clear hx p0 p1 r0 r1
  rintro e W4 ⟨rfl, hb4⟩
  have hB3 := hB2.trans (hb3.mono hB2.size)
  have hB4 := hB3.trans (hb4.mono hB3.size)
  clear hb3 hb4 hB2 hB3 P0 P1 R0 R1 S1 S2
  have x0 := cell_below hB4 X0.out
  have x1 := cell_below hB4 X1.out
  have y0 := cell_below hB4 Y0.out
  have y1 := cell_below hB4 Y1.out
  have hx := HAB.out W4 hB4
  by_cases he : zab = 0
  case neg =>
    rw [errV_some he] at hx
    clear he
    -- one call of diff.Wider: W4: the world; hB4: above W0; x: its fact; W5: the world then; hB5: above W0
    go_wp2_with fail
    refine hx.mono ?_
    clear hx x0 x1 y0 y1
    rintro e W5 ⟨rfl, hB5⟩
    have hB5 := (hB4).trans (hB5.mono (hB4).size)
    have hB5 := hb0.trans (hB5.mono hb0.size)
    go_wp2_with fail
    go_ret
    exact ⟨rfl, hB5⟩
  obtain ⟨⟨e1, e2⟩, e3, e4, e5, e6, e7, e8⟩ := PL.out he
  rw [errV_zero he] at hx
  have E6 := Lib.hid e6
  have E7 := Lib.hid e7
  have E8 := Lib.hid e8
  have E5 := Lib.hid e5
  have E3 := Lib.hid e3
  have E4 := Lib.hid e4
  have E1 := Lib.hid (show zaa = 0 ∧ XA = true from ⟨e1, e2⟩)
  clear e1 e2 e3 e4 e5 e6 e7 e8 he PL
  -- one call of diff.Wider: W4: the world; hB4: above W0; x: its fact; W5: the world then; hB5: above W0
  go_wp2_with fail
  refine hx.mono ?_
  clear hx x0 x1 y0 y1
  rintro e W5 ⟨rfl, hB5⟩
  have hB5 := (hB4).trans (hB5.mono (hB4).size)
  have x0 := cell_below hB5 X0.out
  have x1 := cell_below hB5 X1.out
  have hx := HAA.out W5 hB5
  rw [E1.out.1, E1.out.2, errV_zero rfl] at hx
  -- one call of diff.Wider: W5: the world; hB5: above W0; x: its fact; W6: the world then; hB6: above W0
  go_wp2_with fail
  refine hx.mono ?_
  clear hx x0 x1
  rintro e W6 ⟨rfl, hB6⟩
  have hB6 := (hB5).trans (hB6.mono (hB5).size)
  have y0 := cell_below hB6 Y0.out
  have y1 := cell_below hB6 Y1.out
  have z0 := cell_below hB6 Z0.out
  have z1 := cell_below hB6 Z1.out
  have hx := HBC.out W6 hB6
  rw [E3.out] at hx
  by_cases hc : zc = 0
  case neg =>
    rw [errV_some hc] at hx
    -- one call of diff.Wider: W6: the world; hB6: above W0; x: its fact; W7: the world then; hB7: above W0
    go_wp2_with fail
    refine hx.mono ?_
    clear hx y0 y1 z0 z1
    rintro e W7 ⟨rfl, hB7⟩
    have hB7 := (hB6).trans (hB7.mono (hB6).size)
    have x0 := cell_below hB7 X0.out
    have x1 := cell_below hB7 X1.out
    have z0 := cell_below hB7 Z0.out
    have z1 := cell_below hB7 Z1.out
    have hx := HAC.out W7 hB7
    rw [E4.out, errV_some hc] at hx
    clear hc
    -- one call of diff.Wider: W7: the world; hB7: above W0; x: its fact; W8: the world then; hB8: above W0
    go_wp2_with fail
    refine hx.mono ?_
    clear hx x0 x1 z0 z1
    rintro e W8 ⟨rfl, hB8⟩
    have hB8 := (hB7).trans (hB8.mono (hB7).size)
    clear hB4 hB5 hB6 hB7
    cases X
    · by_cases hz : zg = 0
      case neg =>
        -- the two calls of check.Conforms and the end: W8: the world; hB8: it is above W0; errV_some hz: the error's rewriting
        have x0 := cell_below (hB8) X0.out
        have x1 := cell_below (hB8) X1.out
        have v0 := cell_below (hB8) V0.out
        have v1 := cell_below (hB8) V1.out
        have hx := HPA.out W8 (hB8)
        rw [E6.out, errV_some hz] at hx
        go_wp2_with fail
        refine hx.mono ?_
        clear hx x0 x1 v0 v1
        rintro e u1 ⟨rfl, hq1⟩
        have hr1 := (hB8).trans (hq1.mono (hB8).size)
        have y0 := cell_below hr1 Y0.out
        have y1 := cell_below hr1 Y1.out
        have v0 := cell_below hr1 V0.out
        have v1 := cell_below hr1 V1.out
        have hx := HPB.out u1 hr1
        rw [E7.out, errV_some hz] at hx
        go_wp2_with fail
        refine hx.mono ?_
        clear hx y0 y1 v0 v1
        rintro e u2 ⟨rfl, hq2⟩
        have hr2 := hb0.trans ((hr1.trans (hq2.mono hr1.size)).mono hb0.size)
        clear hq1 hq2 hr1
        go_wp2_with fail
        go_ret
        exact ⟨rfl, hr2⟩
      cases P
      · -- the two calls of check.Conforms and the end: W8: the world; hB8: it is above W0; errV_zero hz: the error's rewriting
        have x0 := cell_below (hB8) X0.out
        have x1 := cell_below (hB8) X1.out
        have v0 := cell_below (hB8) V0.out
        have v1 := cell_below (hB8) V1.out
        have hx := HPA.out W8 (hB8)
        rw [E6.out, errV_zero hz] at hx
        go_wp2_with fail
        refine hx.mono ?_
        clear hx x0 x1 v0 v1
        rintro e u1 ⟨rfl, hq1⟩
        have hr1 := (hB8).trans (hq1.mono (hB8).size)
        have y0 := cell_below hr1 Y0.out
        have y1 := cell_below hr1 Y1.out
        have v0 := cell_below hr1 V0.out
        have v1 := cell_below hr1 V1.out
        have hx := HPB.out u1 hr1
        rw [E7.out, errV_zero hz] at hx
        go_wp2_with fail
        refine hx.mono ?_
        clear hx y0 y1 v0 v1
        rintro e u2 ⟨rfl, hq2⟩
        have hr2 := hb0.trans ((hr1.trans (hq2.mono hr1.size)).mono hb0.size)
        clear hq1 hq2 hr1
        go_wp2_with fail
        go_ret
        exact ⟨rfl, hr2⟩
      cases Q
      · first
        | exact absurd (E8.out hz rfl rfl) (by decide)
        | skip
          -- the two calls of check.Conforms and the end: W8: the world; hB8: it is above W0; errV_zero hz: the error's rewriting
          have x0 := cell_below (hB8) X0.out
          have x1 := cell_below (hB8) X1.out
          have v0 := cell_below (hB8) V0.out
          have v1 := cell_below (hB8) V1.out
          have hx := HPA.out W8 (hB8)
          rw [E6.out, errV_zero hz] at hx
          go_wp2_with fail
          refine hx.mono ?_
          clear hx x0 x1 v0 v1
          rintro e u1 ⟨rfl, hq1⟩
          have hr1 := (hB8).trans (hq1.mono (hB8).size)
          have y0 := cell_below hr1 Y0.out
          have y1 := cell_below hr1 Y1.out
          have v0 := cell_below hr1 V0.out
          have v1 := cell_below hr1 V1.out
          have hx := HPB.out u1 hr1
          rw [E7.out, errV_zero hz] at hx
          go_wp2_with fail
          refine hx.mono ?_
          clear hx y0 y1 v0 v1
          rintro e u2 ⟨rfl, hq2⟩
          have hr2 := hb0.trans ((hr1.trans (hq2.mono hr1.size)).mono hb0.size)
          clear hq1 hq2 hr1
          go_wp2_with fail
          go_ret
          exact ⟨rfl, hr2⟩
      · -- the two calls of check.Conforms and the end: W8: the world; hB8: it is above W0; errV_zero hz: the error's rewriting
        have x0 := cell_below (hB8) X0.out
        have x1 := cell_below (hB8) X1.out
        have v0 := cell_below (hB8) V0.out
        have v1 := cell_below (hB8) V1.out
        have hx := HPA.out W8 (hB8)
        rw [E6.out, errV_zero hz] at hx
        go_wp2_with fail
        refine hx.mono ?_
        clear hx x0 x1 v0 v1
        rintro e u1 ⟨rfl, hq1⟩
        have hr1 := (hB8).trans (hq1.mono (hB8).size)
        have y0 := cell_below hr1 Y0.out
        have y1 := cell_below hr1 Y1.out
        have v0 := cell_below hr1 V0.out
        have v1 := cell_below hr1 V1.out
        have hx := HPB.out u1 hr1
        rw [E7.out, errV_zero hz] at hx
        go_wp2_with fail
        refine hx.mono ?_
        clear hx y0 y1 v0 v1
        rintro e u2 ⟨rfl, hq2⟩
        have hr2 := hb0.trans ((hr1.trans (hq2.mono hr1.size)).mono hb0.size)
        clear hq1 hq2 hr1
        go_wp2_with fail
        go_ret
        exact ⟨rfl, hr2⟩
    · by_cases hz : zg = 0
      case neg =>
        -- the two calls of check.Conforms and the end: W8: the world; hB8: it is above W0; errV_some hz: the error's rewriting
        have x0 := cell_below (hB8) X0.out
        have x1 := cell_below (hB8) X1.out
        have v0 := cell_below (hB8) V0.out
        have v1 := cell_below (hB8) V1.out
        have hx := HPA.out W8 (hB8)
        rw [E6.out, errV_some hz] at hx
        go_wp2_with fail
        refine hx.mono ?_
        clear hx x0 x1 v0 v1
        rintro e u1 ⟨rfl, hq1⟩
        have hr1 := (hB8).trans (hq1.mono (hB8).size)
        have y0 := cell_below hr1 Y0.out
        have y1 := cell_below hr1 Y1.out
        have v0 := cell_below hr1 V0.out
        have v1 := cell_below hr1 V1.out
        have hx := HPB.out u1 hr1
        rw [E7.out, errV_some hz] at hx
        go_wp2_with fail
        refine hx.mono ?_
        clear hx y0 y1 v0 v1
        rintro e u2 ⟨rfl, hq2⟩
        have hr2 := hb0.trans ((hr1.trans (hq2.mono hr1.size)).mono hb0.size)
        clear hq1 hq2 hr1
        go_wp2_with fail
        go_ret
        exact ⟨rfl, hr2⟩
      cases P
      · -- the two calls of check.Conforms and the end: W8: the world; hB8: it is above W0; errV_zero hz: the error's rewriting
        have x0 := cell_below (hB8) X0.out
        have x1 := cell_below (hB8) X1.out
        have v0 := cell_below (hB8) V0.out
        have v1 := cell_below (hB8) V1.out
        have hx := HPA.out W8 (hB8)
        rw [E6.out, errV_zero hz] at hx
        go_wp2_with fail
        refine hx.mono ?_
        clear hx x0 x1 v0 v1
        rintro e u1 ⟨rfl, hq1⟩
        have hr1 := (hB8).trans (hq1.mono (hB8).size)
        have y0 := cell_below hr1 Y0.out
        have y1 := cell_below hr1 Y1.out
        have v0 := cell_below hr1 V0.out
        have v1 := cell_below hr1 V1.out
        have hx := HPB.out u1 hr1
        rw [E7.out, errV_zero hz] at hx
        go_wp2_with fail
        refine hx.mono ?_
        clear hx y0 y1 v0 v1
        rintro e u2 ⟨rfl, hq2⟩
        have hr2 := hb0.trans ((hr1.trans (hq2.mono hr1.size)).mono hb0.size)
        clear hq1 hq2 hr1
        go_wp2_with fail
        go_ret
        exact ⟨rfl, hr2⟩
      cases Q
      · first
        | exact absurd (E8.out hz rfl rfl) (by decide)
        | skip
          -- the two calls of check.Conforms and the end: W8: the world; hB8: it is above W0; errV_zero hz: the error's rewriting
          have x0 := cell_below (hB8) X0.out
          have x1 := cell_below (hB8) X1.out
          have v0 := cell_below (hB8) V0.out
          have v1 := cell_below (hB8) V1.out
          have hx := HPA.out W8 (hB8)
          rw [E6.out, errV_zero hz] at hx
          go_wp2_with fail
          refine hx.mono ?_
          clear hx x0 x1 v0 v1
          rintro e u1 ⟨rfl, hq1⟩
          have hr1 := (hB8).trans (hq1.mono (hB8).size)
          have y0 := cell_below hr1 Y0.out
          have y1 := cell_below hr1 Y1.out
          have v0 := cell_below hr1 V0.out
          have v1 := cell_below hr1 V1.out
          have hx := HPB.out u1 hr1
          rw [E7.out, errV_zero hz] at hx
          go_wp2_with fail
          refine hx.mono ?_
          clear hx y0 y1 v0 v1
          rintro e u2 ⟨rfl, hq2⟩
          have hr2 := hb0.trans ((hr1.trans (hq2.mono hr1.size)).mono hb0.size)
          clear hq1 hq2 hr1
          go_wp2_with fail
          go_ret
          exact ⟨rfl, hr2⟩
      · -- the two calls of check.Conforms and the end: W8: the world; hB8: it is above W0; errV_zero hz: the error's rewriting
        have x0 := cell_below (hB8) X0.out
        have x1 := cell_below (hB8) X1.out
        have v0 := cell_below (hB8) V0.out
        have v1 := cell_below (hB8) V1.out
        have hx := HPA.out W8 (hB8)
        rw [E6.out, errV_zero hz] at hx
        go_wp2_with fail
        refine hx.mono ?_
        clear hx x0 x1 v0 v1
        rintro e u1 ⟨rfl, hq1⟩
        have hr1 := (hB8).trans (hq1.mono (hB8).size)
        have y0 := cell_below hr1 Y0.out
        have y1 := cell_below hr1 Y1.out
        have v0 := cell_below hr1 V0.out
        have v1 := cell_below hr1 V1.out
        have hx := HPB.out u1 hr1
        rw [E7.out, errV_zero hz] at hx
        go_wp2_with fail
        refine hx.mono ?_
        clear hx y0 y1 v0 v1
        rintro e u2 ⟨rfl, hq2⟩
        have hr2 := hb0.trans ((hr1.trans (hq2.mono hr1.size)).mono hb0.size)
        clear hq1 hq2 hr1
        go_wp2_with fail
        go_ret
        exact ⟨rfl, hr2⟩
  have HZC := Lib.hid hc
  rw [errV_zero hc] at hx
  -- one call of diff.Wider: W6: the world; hB6: above W0; x: its fact; W7: the world then; hB7: above W0
  go_wp2_with fail
  refine hx.mono ?_
  clear hx y0 y1 z0 z1
  rintro e W7 ⟨rfl, hB7⟩
  have hB7 := (hB6).trans (hB7.mono (hB6).size)
  have x0 := cell_below hB7 X0.out
  have x1 := cell_below hB7 X1.out
  have z0 := cell_below hB7 Z0.out
  have z1 := cell_below hB7 Z1.out
  have hx := HAC.out W7 hB7
  rw [E4.out, errV_zero hc] at hx
  clear hc
  -- one call of diff.Wider: W7: the world; hB7: above W0; x: its fact; W8: the world then; hB8: above W0
  go_wp2_with fail
  refine hx.mono ?_
  clear hx x0 x1 z0 z1
  rintro e W8 ⟨rfl, hB8⟩
  have hB8 := (hB7).trans (hB8.mono (hB7).size)
  clear hB4 hB5 hB6 hB7
  cases X
  · by_cases hz : zg = 0
    case neg =>
      -- the two calls of check.Conforms and the end: W8: the world; hB8: it is above W0; errV_some hz: the error's rewriting
      have x0 := cell_below (hB8) X0.out
      have x1 := cell_below (hB8) X1.out
      have v0 := cell_below (hB8) V0.out
      have v1 := cell_below (hB8) V1.out
      have hx := HPA.out W8 (hB8)
      rw [E6.out, errV_some hz] at hx
      go_wp2_with fail
      refine hx.mono ?_
      clear hx x0 x1 v0 v1
      rintro e u1 ⟨rfl, hq1⟩
      have hr1 := (hB8).trans (hq1.mono (hB8).size)
      have y0 := cell_below hr1 Y0.out
      have y1 := cell_below hr1 Y1.out
      have v0 := cell_below hr1 V0.out
      have v1 := cell_below hr1 V1.out
      have hx := HPB.out u1 hr1
      rw [E7.out, errV_some hz] at hx
      go_wp2_with fail
      refine hx.mono ?_
      clear hx y0 y1 v0 v1
      rintro e u2 ⟨rfl, hq2⟩
      have hr2 := hb0.trans ((hr1.trans (hq2.mono hr1.size)).mono hb0.size)
      clear hq1 hq2 hr1
      go_wp2_with fail
      go_ret
      exact ⟨rfl, hr2⟩
    cases P
    · -- the two calls of check.Conforms and the end: W8: the world; hB8: it is above W0; errV_zero hz: the error's rewriting
      have x0 := cell_below (hB8) X0.out
      have x1 := cell_below (hB8) X1.out
      have v0 := cell_below (hB8) V0.out
      have v1 := cell_below (hB8) V1.out
      have hx := HPA.out W8 (hB8)
      rw [E6.out, errV_zero hz] at hx
      go_wp2_with fail
      refine hx.mono ?_
      clear hx x0 x1 v0 v1
      rintro e u1 ⟨rfl, hq1⟩
      have hr1 := (hB8).trans (hq1.mono (hB8).size)
      have y0 := cell_below hr1 Y0.out
      have y1 := cell_below hr1 Y1.out
      have v0 := cell_below hr1 V0.out
      have v1 := cell_below hr1 V1.out
      have hx := HPB.out u1 hr1
      rw [E7.out, errV_zero hz] at hx
      go_wp2_with fail
      refine hx.mono ?_
      clear hx y0 y1 v0 v1
      rintro e u2 ⟨rfl, hq2⟩
      have hr2 := hb0.trans ((hr1.trans (hq2.mono hr1.size)).mono hb0.size)
      clear hq1 hq2 hr1
      go_wp2_with fail
      go_ret
      exact ⟨rfl, hr2⟩
    cases Q
    · first
      | exact absurd (E8.out hz rfl rfl) (by decide)
      | skip
        -- the two calls of check.Conforms and the end: W8: the world; hB8: it is above W0; errV_zero hz: the error's rewriting
        have x0 := cell_below (hB8) X0.out
        have x1 := cell_below (hB8) X1.out
        have v0 := cell_below (hB8) V0.out
        have v1 := cell_below (hB8) V1.out
        have hx := HPA.out W8 (hB8)
        rw [E6.out, errV_zero hz] at hx
        go_wp2_with fail
        refine hx.mono ?_
        clear hx x0 x1 v0 v1
        rintro e u1 ⟨rfl, hq1⟩
        have hr1 := (hB8).trans (hq1.mono (hB8).size)
        have y0 := cell_below hr1 Y0.out
        have y1 := cell_below hr1 Y1.out
        have v0 := cell_below hr1 V0.out
        have v1 := cell_below hr1 V1.out
        have hx := HPB.out u1 hr1
        rw [E7.out, errV_zero hz] at hx
        go_wp2_with fail
        refine hx.mono ?_
        clear hx y0 y1 v0 v1
        rintro e u2 ⟨rfl, hq2⟩
        have hr2 := hb0.trans ((hr1.trans (hq2.mono hr1.size)).mono hb0.size)
        clear hq1 hq2 hr1
        go_wp2_with fail
        go_ret
        exact ⟨rfl, hr2⟩
    · -- the two calls of check.Conforms and the end: W8: the world; hB8: it is above W0; errV_zero hz: the error's rewriting
      have x0 := cell_below (hB8) X0.out
      have x1 := cell_below (hB8) X1.out
      have v0 := cell_below (hB8) V0.out
      have v1 := cell_below (hB8) V1.out
      have hx := HPA.out W8 (hB8)
      rw [E6.out, errV_zero hz] at hx
      go_wp2_with fail
      refine hx.mono ?_
      clear hx x0 x1 v0 v1
      rintro e u1 ⟨rfl, hq1⟩
      have hr1 := (hB8).trans (hq1.mono (hB8).size)
      have y0 := cell_below hr1 Y0.out
      have y1 := cell_below hr1 Y1.out
      have v0 := cell_below hr1 V0.out
      have v1 := cell_below hr1 V1.out
      have hx := HPB.out u1 hr1
      rw [E7.out, errV_zero hz] at hx
      go_wp2_with fail
      refine hx.mono ?_
      clear hx y0 y1 v0 v1
      rintro e u2 ⟨rfl, hq2⟩
      have hr2 := hb0.trans ((hr1.trans (hq2.mono hr1.size)).mono hb0.size)
      clear hq1 hq2 hr1
      go_wp2_with fail
      go_ret
      exact ⟨rfl, hr2⟩
  cases Y
  · by_cases hz : zg = 0
    case neg =>
      -- the two calls of check.Conforms and the end: W8: the world; hB8: it is above W0; errV_some hz: the error's rewriting
      have x0 := cell_below (hB8) X0.out
      have x1 := cell_below (hB8) X1.out
      have v0 := cell_below (hB8) V0.out
      have v1 := cell_below (hB8) V1.out
      have hx := HPA.out W8 (hB8)
      rw [E6.out, errV_some hz] at hx
      go_wp2_with fail
      refine hx.mono ?_
      clear hx x0 x1 v0 v1
      rintro e u1 ⟨rfl, hq1⟩
      have hr1 := (hB8).trans (hq1.mono (hB8).size)
      have y0 := cell_below hr1 Y0.out
      have y1 := cell_below hr1 Y1.out
      have v0 := cell_below hr1 V0.out
      have v1 := cell_below hr1 V1.out
      have hx := HPB.out u1 hr1
      rw [E7.out, errV_some hz] at hx
      go_wp2_with fail
      refine hx.mono ?_
      clear hx y0 y1 v0 v1
      rintro e u2 ⟨rfl, hq2⟩
      have hr2 := hb0.trans ((hr1.trans (hq2.mono hr1.size)).mono hb0.size)
      clear hq1 hq2 hr1
      go_wp2_with fail
      go_ret
      exact ⟨rfl, hr2⟩
    cases P
    · -- the two calls of check.Conforms and the end: W8: the world; hB8: it is above W0; errV_zero hz: the error's rewriting
      have x0 := cell_below (hB8) X0.out
      have x1 := cell_below (hB8) X1.out
      have v0 := cell_below (hB8) V0.out
      have v1 := cell_below (hB8) V1.out
      have hx := HPA.out W8 (hB8)
      rw [E6.out, errV_zero hz] at hx
      go_wp2_with fail
      refine hx.mono ?_
      clear hx x0 x1 v0 v1
      rintro e u1 ⟨rfl, hq1⟩
      have hr1 := (hB8).trans (hq1.mono (hB8).size)
      have y0 := cell_below hr1 Y0.out
      have y1 := cell_below hr1 Y1.out
      have v0 := cell_below hr1 V0.out
      have v1 := cell_below hr1 V1.out
      have hx := HPB.out u1 hr1
      rw [E7.out, errV_zero hz] at hx
      go_wp2_with fail
      refine hx.mono ?_
      clear hx y0 y1 v0 v1
      rintro e u2 ⟨rfl, hq2⟩
      have hr2 := hb0.trans ((hr1.trans (hq2.mono hr1.size)).mono hb0.size)
      clear hq1 hq2 hr1
      go_wp2_with fail
      go_ret
      exact ⟨rfl, hr2⟩
    cases Q
    · first
      | exact absurd (E8.out hz rfl rfl) (by decide)
      | skip
        -- the two calls of check.Conforms and the end: W8: the world; hB8: it is above W0; errV_zero hz: the error's rewriting
        have x0 := cell_below (hB8) X0.out
        have x1 := cell_below (hB8) X1.out
        have v0 := cell_below (hB8) V0.out
        have v1 := cell_below (hB8) V1.out
        have hx := HPA.out W8 (hB8)
        rw [E6.out, errV_zero hz] at hx
        go_wp2_with fail
        refine hx.mono ?_
        clear hx x0 x1 v0 v1
        rintro e u1 ⟨rfl, hq1⟩
        have hr1 := (hB8).trans (hq1.mono (hB8).size)
        have y0 := cell_below hr1 Y0.out
        have y1 := cell_below hr1 Y1.out
        have v0 := cell_below hr1 V0.out
        have v1 := cell_below hr1 V1.out
        have hx := HPB.out u1 hr1
        rw [E7.out, errV_zero hz] at hx
        go_wp2_with fail
        refine hx.mono ?_
        clear hx y0 y1 v0 v1
        rintro e u2 ⟨rfl, hq2⟩
        have hr2 := hb0.trans ((hr1.trans (hq2.mono hr1.size)).mono hb0.size)
        clear hq1 hq2 hr1
        go_wp2_with fail
        go_ret
        exact ⟨rfl, hr2⟩
    · -- the two calls of check.Conforms and the end: W8: the world; hB8: it is above W0; errV_zero hz: the error's rewriting
      have x0 := cell_below (hB8) X0.out
      have x1 := cell_below (hB8) X1.out
      have v0 := cell_below (hB8) V0.out
      have v1 := cell_below (hB8) V1.out
      have hx := HPA.out W8 (hB8)
      rw [E6.out, errV_zero hz] at hx
      go_wp2_with fail
      refine hx.mono ?_
      clear hx x0 x1 v0 v1
      rintro e u1 ⟨rfl, hq1⟩
      have hr1 := (hB8).trans (hq1.mono (hB8).size)
      have y0 := cell_below hr1 Y0.out
      have y1 := cell_below hr1 Y1.out
      have v0 := cell_below hr1 V0.out
      have v1 := cell_below hr1 V1.out
      have hx := HPB.out u1 hr1
      rw [E7.out, errV_zero hz] at hx
      go_wp2_with fail
      refine hx.mono ?_
      clear hx y0 y1 v0 v1
      rintro e u2 ⟨rfl, hq2⟩
      have hr2 := hb0.trans ((hr1.trans (hq2.mono hr1.size)).mono hb0.size)
      clear hq1 hq2 hr1
      go_wp2_with fail
      go_ret
      exact ⟨rfl, hr2⟩
  cases Z
  · exact absurd (E5.out HZC.out rfl rfl) (by decide)
  · by_cases hz : zg = 0
    case neg =>
      -- the two calls of check.Conforms and the end: W8: the world; hB8: it is above W0; errV_some hz: the error's rewriting
      have x0 := cell_below (hB8) X0.out
      have x1 := cell_below (hB8) X1.out
      have v0 := cell_below (hB8) V0.out
      have v1 := cell_below (hB8) V1.out
      have hx := HPA.out W8 (hB8)
      rw [E6.out, errV_some hz] at hx
      go_wp2_with fail
      refine hx.mono ?_
      clear hx x0 x1 v0 v1
      rintro e u1 ⟨rfl, hq1⟩
      have hr1 := (hB8).trans (hq1.mono (hB8).size)
      have y0 := cell_below hr1 Y0.out
      have y1 := cell_below hr1 Y1.out
      have v0 := cell_below hr1 V0.out
      have v1 := cell_below hr1 V1.out
      have hx := HPB.out u1 hr1
      rw [E7.out, errV_some hz] at hx
      go_wp2_with fail
      refine hx.mono ?_
      clear hx y0 y1 v0 v1
      rintro e u2 ⟨rfl, hq2⟩
      have hr2 := hb0.trans ((hr1.trans (hq2.mono hr1.size)).mono hb0.size)
      clear hq1 hq2 hr1
      go_wp2_with fail
      go_ret
      exact ⟨rfl, hr2⟩
    cases P
    · -- the two calls of check.Conforms and the end: W8: the world; hB8: it is above W0; errV_zero hz: the error's rewriting
      have x0 := cell_below (hB8) X0.out
      have x1 := cell_below (hB8) X1.out
      have v0 := cell_below (hB8) V0.out
      have v1 := cell_below (hB8) V1.out
      have hx := HPA.out W8 (hB8)
      rw [E6.out, errV_zero hz] at hx
      go_wp2_with fail
      refine hx.mono ?_
      clear hx x0 x1 v0 v1
      rintro e u1 ⟨rfl, hq1⟩
      have hr1 := (hB8).trans (hq1.mono (hB8).size)
      have y0 := cell_below hr1 Y0.out
      have y1 := cell_below hr1 Y1.out
      have v0 := cell_below hr1 V0.out
      have v1 := cell_below hr1 V1.out
      have hx := HPB.out u1 hr1
      rw [E7.out, errV_zero hz] at hx
      go_wp2_with fail
      refine hx.mono ?_
      clear hx y0 y1 v0 v1
      rintro e u2 ⟨rfl, hq2⟩
      have hr2 := hb0.trans ((hr1.trans (hq2.mono hr1.size)).mono hb0.size)
      clear hq1 hq2 hr1
      go_wp2_with fail
      go_ret
      exact ⟨rfl, hr2⟩
    cases Q
    · first
      | exact absurd (E8.out hz rfl rfl) (by decide)
      | skip
        -- the two calls of check.Conforms and the end: W8: the world; hB8: it is above W0; errV_zero hz: the error's rewriting
        have x0 := cell_below (hB8) X0.out
        have x1 := cell_below (hB8) X1.out
        have v0 := cell_below (hB8) V0.out
        have v1 := cell_below (hB8) V1.out
        have hx := HPA.out W8 (hB8)
        rw [E6.out, errV_zero hz] at hx
        go_wp2_with fail
        refine hx.mono ?_
        clear hx x0 x1 v0 v1
        rintro e u1 ⟨rfl, hq1⟩
        have hr1 := (hB8).trans (hq1.mono (hB8).size)
        have y0 := cell_below hr1 Y0.out
        have y1 := cell_below hr1 Y1.out
        have v0 := cell_below hr1 V0.out
        have v1 := cell_below hr1 V1.out
        have hx := HPB.out u1 hr1
        rw [E7.out, errV_zero hz] at hx
        go_wp2_with fail
        refine hx.mono ?_
        clear hx y0 y1 v0 v1
        rintro e u2 ⟨rfl, hq2⟩
        have hr2 := hb0.trans ((hr1.trans (hq2.mono hr1.size)).mono hb0.size)
        clear hq1 hq2 hr1
        go_wp2_with fail
        go_ret
        exact ⟨rfl, hr2⟩
    · -- the two calls of check.Conforms and the end: W8: the world; hB8: it is above W0; errV_zero hz: the error's rewriting
      have x0 := cell_below (hB8) X0.out
      have x1 := cell_below (hB8) X1.out
      have v0 := cell_below (hB8) V0.out
      have v1 := cell_below (hB8) V1.out
      have hx := HPA.out W8 (hB8)
      rw [E6.out, errV_zero hz] at hx
      go_wp2_with fail
      refine hx.mono ?_
      clear hx x0 x1 v0 v1
      rintro e u1 ⟨rfl, hq1⟩
      have hr1 := (hB8).trans (hq1.mono (hB8).size)
      have y0 := cell_below hr1 Y0.out
      have y1 := cell_below hr1 Y1.out
      have v0 := cell_below hr1 V0.out
      have v1 := cell_below hr1 V1.out
      have hx := HPB.out u1 hr1
      rw [E7.out, errV_zero hz] at hx
      go_wp2_with fail
      refine hx.mono ?_
      clear hx y0 y1 v0 v1
      rintro e u2 ⟨rfl, hq2⟩
      have hr2 := hb0.trans ((hr1.trans (hq2.mono hr1.size)).mono hb0.size)
      clear hq1 hq2 hr1
      go_wp2_with fail
      go_ret
      exact ⟨rfl, hr2⟩
end Go.Proofs.Ytpjnbikkhfnjbaa
