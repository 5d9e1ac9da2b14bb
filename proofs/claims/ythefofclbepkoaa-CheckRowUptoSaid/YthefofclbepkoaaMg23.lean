/- Parts: ChkH, ChkW. -/
import Derived.Test.YthefofclbepkoaaMg20
import Derived.Test.YthefofclbepkoaaMg22
import Derived.Deep.RegionHeld3
/- Contract: the law CheckHolds answers true. -/
namespace Go.Proofs.Ythefofclbepkoaa
open Go Go.RowKit



theorem flt_at {w : World} {A : Option Addr} {k n c : Nat} {l : List Flt} (h : Sl fltL w (.slice A n c) l) {d : Flt} (hk : l[k]? = some d) :
    ∃ b o, A = some ⟨b, o, none⟩ ∧ d.ok ∧ w.cell? ⟨b, o + k * 3, none⟩ = some (.int .i64 d.what) ∧ w.cell? ⟨b, o + k * 3 + 1, none⟩ = some (.int .i64 d.node) ∧ w.cell? ⟨b, o + k * 3 + 2, none⟩ = some (.string d.name) := by
  obtain ⟨b, o, hA, hall⟩ := h.all (len_pos hk)
  obtain ⟨cs, ⟨rfl, ok⟩, hx⟩ := hall k d hk
  exact ⟨b, o, hA, ok, hx 0 _ rfl, hx 1 _ rfl, hx 2 _ rfl⟩
def ckOneG : Grf := ⟨[⟨1, ⟨#[97]⟩, []⟩], []⟩
def ckNoS : Scm := ⟨[], []⟩
theorem ck_ready : readySG ckNoS ckOneG = 0 := by decide +kernel
theorem ck_fact : faultsR ckNoS ckOneG = [⟨1, 1, ⟨#[97]⟩⟩] := by
  unfold faultsR
  rw [if_pos ck_ready]
  rfl
theorem ck_nods {W : World} {b : Nat} {fr : Nat × Nat} (g0 : W.heap[b]? = some (.cells #[.int .i64 1, .string ⟨#[97]⟩, .slice none 0 0] 46 fr)) : Sl nodL W (.slice (some ⟨b, 0, none⟩) 1 1) ckOneG.nodes := by
  refine ⟨_, 1, rfl, Nat.le_refl _, by unfold maxLen; omega, fun i d hi => ?_⟩
  have hI1 : I64 1 := ⟨by omega, by omega⟩
  have hS : Sm ⟨#[97]⟩ := by unfold Sm; show 1 ≤ 1048576; omega
  match i, hi with
  | 0, hi =>
    injection hi with hi; subst hi
    refine ⟨_, _, [.int .i64 1, .string ⟨#[97]⟩, .slice none 0 0], rfl, ⟨_, rfl, hI1, hS, Sl.nil 0 (Nat.zero_le _) none⟩, fun j u hj => ?_⟩
    match j, hj with
    | 0, hj => injection hj with hj; subst hj; exact cell_of_row W b 0 _ _ _ g0
    | 1, hj => injection hj with hj; subst hj; exact cell_of_row W b 1 _ _ _ g0
    | 2, hj => injection hj with hj; subst hj; exact cell_of_row W b 2 _ _ _ g0
theorem conf_empty {s : Scm} (h : (scmE s).2 = 0) : confR s ⟨[], []⟩ = true ∧ readySG s ⟨[], []⟩ = 0 := by
  have hg : grfE ⟨[], []⟩ = 0 := by decide +kernel
  have hr : readySG s ⟨[], []⟩ = 0 := by unfold readySG; rw [if_pos h, hg]
  refine ⟨?_, hr⟩
  unfold confR faultsR
  rw [if_pos hr, ofF_empty, decide_eq_true hr]
  rfl
theorem conf_sum {s : Scm} {g : Grf} (h : confR s g = true) : sumA s g.nodes = 0 := by
  unfold confR at h
  simp only [Bool.and_eq_true, decide_eq_true_eq] at h
  obtain ⟨h1, h2⟩ := h
  unfold faultsR at h2
  rw [if_pos h1] at h2
  exact sumA_zero (ofF_alone (List.eq_nil_of_length_eq_zero h2))
theorem grf_nodE {g : Grf} (h : grfE g = 0) : ∀ n ∈ g.nodes, nodE n = 0 := fun n hn => ((grf_ok h).2.2.2 n hn).2
set_option maxRecDepth 100000 in
set_option maxHeartbeats 8000000 in
theorem checkHolds_any (s : Scm) (g : Grf) (vk vb vn vt : Value) (w : World) (hs : ScmR w vk vb s) (hg : GrfR w vn vt g) :
    Calls Try.prog 6 #[.agg #[vk, vb], .agg #[vn, vt]] w fun e w' => e = .returned (.bool true) ∧ Below w.heap.size w w' := by
  obtain ⟨A1, c1, rfl, _, _⟩ := hs.1.form
  obtain ⟨A2, c2, rfl, _, _⟩ := hs.2.form
  obtain ⟨A3, c3, rfl, _, _⟩ := hg.1.form
  obtain ⟨A4, c4, rfl, _, _⟩ := hg.2.form
  obtain ⟨W0, hW0⟩ : ∃ W0, W0 = (w.alloc (.cells #[.slice A1 s.kinds.length c1, .slice A2 s.bonds.length c2] 68)).alloc (.cells #[.slice A3 g.nodes.length c3, .slice A4 g.ties.length c4] 43) := ⟨_, rfl⟩
  have hb0 : Below w.heap.size w W0 := by rw [hW0]; exact ((Below.refl _ _).alloc (Nat.le_refl _) _).alloc (by simp) _
  have g0 : W0.heap[w.heap.size]? = some (.cells #[.slice A1 s.kinds.length c1, .slice A2 s.bonds.length c2] 68 (0, 0)) := by
    rw [hW0, Below.heap_alloc _ _ _ (by simp)]; exact heap_alloc_new _ _
  have g1 : W0.heap[w.heap.size + 1]? = some (.cells #[.slice A3 g.nodes.length c3, .slice A4 g.ties.length c4] 43 (0, 0)) := by
    have := heap_alloc_new (w.alloc (.cells #[.slice A1 s.kinds.length c1, .slice A2 s.bonds.length c2] 68)) (.cells #[.slice A3 g.nodes.length c3, .slice A4 g.ties.length c4] 43); rw [hW0]; simpa using this
  have hW0' := hW0.symm
  have HG0 := Lib.hid g0
  have HG1 := Lib.hid g1
  have x0 := block_cell g0 0
  have x1 := block_cell g0 1
  have y0 := block_cell g1 0
  have y1 := block_cell g1 1
  have hw0 := hb0.size
  have HS := Lib.hid (hs.below hb0)
  have HG := Lib.hid (hg.below hb0)
  clear hs hg g0 g1 hW0
  have X0 := Lib.hid x0
  have X1 := Lib.hid x1
  have Y0 := Lib.hid y0
  have Y1 := Lib.hid y1
  clear x0 x1 y0 y1
  go_enter Try.func6, Try.ntmps6
  go_upto_region 1 with fail
  clear hW0'
  go_upto_region 2 with fail
  obtain ⟨W3, hW3⟩ : ∃ W3, W3 = (W0.alloc (.cells #[.int .i64 1, .string ⟨#[97]⟩, .slice none 0 0] 46)).alloc (.cells #[.slice (some ⟨W0.heap.size, 0, none⟩) 1 1, .slice none 0 0] 43) := ⟨_, rfl⟩
  have hb3 : Below W0.heap.size W0 W3 := by rw [hW3]; exact ((Below.refl _ _).alloc (Nat.le_refl _) _).alloc (by simp) _
  have q0 : W3.heap[W0.heap.size]? = some (.cells #[.int .i64 1, .string ⟨#[97]⟩, .slice none 0 0] 46 (0, 0)) := by
    rw [hW3, Below.heap_alloc _ _ _ (by simp)]; exact heap_alloc_new _ _
  have q1 : W3.heap[W0.heap.size + 1]? = some (.cells #[.slice (some ⟨W0.heap.size, 0, none⟩) 1 1, .slice none 0 0] 43 (0, 0)) := by
    have := heap_alloc_new (W0.alloc (.cells #[.int .i64 1, .string ⟨#[97]⟩, .slice none 0 0] 46)) (.cells #[.slice (some ⟨W0.heap.size, 0, none⟩) 1 1, .slice none 0 0] 43); rw [hW3]; simpa using this
  have p0 := block_cell q1 0
  have p1 := block_cell q1 1
  have hf := faults_any ckNoS ckOneG (.slice none 0 0) (.slice none 0 0) _ _ W3 ⟨Sl.nil 0 (Nat.zero_le _) none, Sl.nil 0 (Nat.zero_le _) none⟩ ⟨ck_nods q0, Sl.nil 0 (Nat.zero_le _) none⟩
  rw [ck_fact, ck_ready] at hf
  unfold RetF at hf
  rw [errV_zero rfl] at hf
  rw [← hW3]
  clear hW3 q0 q1
  go_wp2_with fail
  refine hf.mono ?_
  clear hf p0 p1
  rintro e w1 ⟨u, rfl, hu, hb1⟩
  obtain ⟨A5, c5, hv5, _, _⟩ := hu.form
  have hv5 : u = .slice A5 1 c5 := hv5
  subst hv5
  obtain ⟨b5, o5, rfl, _, r0, r1, _⟩ := flt_at hu (k := 0) (d := ⟨1, 1, ⟨#[97]⟩⟩) rfl
  rw [Nat.zero_mul, Nat.add_zero] at r0 r1
  have hb01 := hb3.trans (hb1.mono hb3.size)
  have hB1 := hb0.trans (hb01.mono hw0)
  have x0 := cell_below hb01 X0.out
  have x1 := cell_below hb01 X1.out
  have y0 := cell_below hb01 Y0.out
  have y1 := cell_below hb01 Y1.out
  have hcf := conforms_any s g _ _ _ _ w1 (HS.out.below hb01) (HG.out.below hb01)
  have HZ : Hid (readySG s g = 0 → (scmE s).2 = 0 ∧ grfE g = 0) := readySG_zero
  have HSUM : Hid (confR s g = true → sumA s g.nodes = 0) := conf_sum
  generalize readySG s g = z at *
  generalize confR s g = cf at *
  clear hu hb1 hb3
  go_wp2_with fail
  refine hcf.mono ?_
  clear hcf r0 r1
  rintro e w2 ⟨rfl, hb2⟩
  have hb02 := hb01.trans (hb2.mono hb01.size)
  have hB2 := hb0.trans (hb02.mono hw0)
  have x0 := cell_below hb02 X0.out
  have x1 := cell_below hb02 X1.out
  clear hb01 hb2 y0 y1
  by_cases he : z = 0
  case neg =>
    rw [errV_some he]
    clear he HZ HSUM
    go_wp2_with fail
    go_ret
    exact ⟨rfl, hB2⟩
  obtain ⟨z1, z2⟩ := HZ.out he
  have HZ1 := Lib.hid z1
  have HND := Lib.hid (grf_nodE z2)
  have HRC := Lib.hid (grf_recs z2)
  have HKL : Hid (∀ nm, (kfl s nm).length ≤ 8) := kfl_len (scm_right z1).1
  have hnl := (grf_ok z2).1
  have hcf := conforms_any s ⟨[], []⟩ _ _ (.slice none 0 0) (.slice none 0 0) w2 (HS.out.below hb02) ⟨Sl.nil 0 (Nat.zero_le _) none, Sl.nil 0 (Nat.zero_le _) none⟩
  rw [(conf_empty z1).1, (conf_empty z1).2, errV_zero rfl] at hcf
  rw [errV_zero he]
  clear he HZ z1 z2
  go_wp2_with fail
  refine hcf.mono ?_
  clear hcf x0 x1
  rintro e w3 ⟨rfl, hb3⟩
  have hb03 := hb02.trans (hb3.mono hb02.size)
  clear hb02 hb3 hB2
  have HSL : Hid (∀ k, sumA s (g.nodes.take k) ≤ 2000) := fun k => by
    have h1 := sumA_le (s := s) (b := 17) (l := g.nodes.take k) (fun n hn => by
      have h2 := aloneF_len s n
      have h3 := (HRC.out n (List.mem_of_mem_take hn)).1
      have h4 := HKL.out n.kind
      omega)
    have h5 : (g.nodes.take k).length ≤ 60 := by rw [List.length_take]; omega
    omega
  go_wp2_with fail
  go_loopw [12, 13] (fun a i wr => ∃ k : Nat, k ≤ g.nodes.length ∧ i = .int .i64 k ∧ a = .int .i64 (sumA s (g.nodes.take k) : Nat) ∧ Below w3.heap.size w3 wr) (fun _ i _ => g.nodes.length - (intOf i).toNat)
  case atStart => exact ⟨0, Nat.zero_le _, rfl, rfl, Below.refl _ _⟩
  case round =>
    obtain ⟨k, hk, rfl, rfl, hbr⟩ := hrel
    have hb0r := hb03.trans (hbr.mono hb03.size)
    have x0 := cell_below hb0r X0.out
    have x1 := cell_below hb0r X1.out
    have y0 := cell_below hb0r Y0.out
    by_cases hlt : k < g.nodes.length
    · obtain ⟨n, hd⟩ : ∃ d, g.nodes[k]? = some d := ⟨_, List.getElem?_eq_getElem hlt⟩
      have hlt' : (k : Int) < (g.nodes.length : Int) := by omega
      obtain ⟨gb, o, rfl, u, hid, hkd, hpr, q0, q1, q2⟩ := nod_at (HG.out.below hb0r).1 hd
      obtain ⟨Au, cu, rfl, _, _⟩ := hpr.form
      have hmem := List.mem_of_getElem? hd
      have hE : nodeFE s n = 0 := by unfold nodeFE; rw [if_pos HZ1.out]; exact HND.out n hmem
      have hR : nodeFR s n = aloneF s n := by unfold nodeFR; rw [if_pos hE]
      have HNF : Hid (∀ W, Below wr.heap.size wr W → Calls Try.prog 22 #[.agg #[.slice A1 s.kinds.length c1, .slice A2 s.bonds.length c2], .agg #[.int .i64 n.id, .string n.kind, .slice Au n.props.length cu]] W (RetF (aloneF s n) 0 W)) := fun W h => by
        have h1 := nodeFaults_any s n _ _ _ W ((HS.out.below hb0r).below h) hid hkd (hpr.below h)
        rw [hE, hR] at h1
        exact h1
      have HST := Lib.hid (sumA_snoc (s := s) hd)
      have hs1 := HSL.out k
      have hs2 := HSL.out (k + 1)
      rw [HST.out] at hs2
      generalize aloneF s n = fl at *
      generalize sumA s (g.nodes.take k) = sm at *
      have hs3 : (sm : Int) + (fl.length : Int) ≤ 2000 := by omega
      have hs4 : (0 : Int) ≤ (sm : Int) := by omega
      have hs5 : (0 : Int) ≤ (fl.length : Int) := by omega
      clear hd hmem hE hR hpr hid hkd hs1 hs2
      go_wp2_with fail
      refine wp_mid_k 6 _ rfl rfl (by kernel_rfl) (by kernel_rfl) ?_
      simp only [List.take_succ_cons, List.take_zero, List.drop_succ_cons, List.drop_zero]
      repeat (go_big_quiet_step (fail))
      refine wpQuiet_nil ?_
      intro _ hw'
      obtain ⟨nq, hw''⟩ := hw'
      subst hw''
      intro K hK
      have hk1 := HNF.out (wr.drewN nq) (below_drewN (Below.refl _ _) nq)
      unfold RetF at hk1
      rw [errV_zero rfl] at hk1
      clear HNF
      go_wp2_with fail
      refine hk1.mono ?_
      clear hk1
      rintro e w4 ⟨u4, rfl, hu4, hb4⟩
      obtain ⟨A4x, c4x, rfl, _, _⟩ := hu4.form
      have hb34 := (below_drewN (Below.refl wr.heap.size wr) nq).trans hb4
      clear hu4 hb4
      refine hK _ _ ?_
      repeat (go_big_quiet_step (fail))
      refine wpQuiet_nil ?_
      intro _ hw'
      obtain ⟨nq2, hw''⟩ := hw'
      subst hw''
      clear hK
      have hbW := below_drewN hb34 nq2
      generalize w4.drewN nq2 = w5 at *
      have hb5 := hbr.trans (hbW.mono hbr.size)
      generalize fl.length = nl at *
      clear hb34 hbW x0 x1 y0 q0 q1 q2 hbr hb0r
      go_wp2_with fail
      go_roundw
      case rel => exact ⟨k + 1, by omega, by go_num, by rw [HST.out]; go_num, hb5⟩
      case measure => simp [intOf]; omega
    · obtain rfl : k = g.nodes.length := by omega
      rw [List.take_length]
      have hs1 := HSL.out g.nodes.length
      rw [List.take_length] at hs1
      have hBr := hb0.trans (hb0r.mono hw0)
      cases cf with
      | false =>
        generalize sumA s g.nodes = sm at *
        clear HSUM
        go_wp2_with fail
        go_ret
        exact ⟨rfl, hBr⟩
      | true =>
        rw [HSUM.out rfl]
        clear HSUM hs1
        go_wp2_with fail
        go_ret
        exact ⟨rfl, hBr⟩
end Go.Proofs.Ythefofclbepkoaa

/- Contract: the law CheckRow answers true. -/
namespace Go.Proofs.Ythefofclbepkoaa
open Go Go.RowKit

theorem OwnNods.unsnoc {w : World} {B : Nat} {d : Nod} : ∀ {l : List Nod} {xs : List Value}, OwnNods w B (l ++ [d]) xs → ∃ ys u, xs = ys ++ [.int .i64 d.id, .string d.kind, u] ∧ OwnNods w B l ys ∧ ys.length = l.length * 3
  | [], xs, h => by
    obtain ⟨u, ys, rfl, _, _, _, _, h5⟩ := h
    exact ⟨[], u, by rw [show ys = [] from h5]; simp, rfl, rfl⟩
  | e :: l, xs, h => by
    obtain ⟨v, zs, rfl, k1, k2, k3, k4, k5⟩ := h
    obtain ⟨ys, u, rfl, h1, h2⟩ := OwnNods.unsnoc k5
    refine ⟨[.int .i64 e.id, .string e.kind, v] ++ ys, u, by simp, ⟨v, ys, rfl, k1, k2, k3, k4, h1⟩, ?_⟩
    simp [h2, Nat.add_mul]
theorem row_nodes_eq (m : Nat) (key : Int) : (List.range (m + 1)).map (rowN (keyK (m + 1) key)) = (List.range m).map manyNod ++ [rowN (keyK (m + 1) key) m] := by
  rw [List.range_succ, List.map_append]
  congr 1
  refine List.map_congr_left fun i hi => ?_
  have hi := List.mem_range.1 hi
  unfold rowN manyNod keyK
  rw [if_neg (by omega)]
theorem row_put {B : Nat} {w : World} {gn on cn m : Nat} {u uo : Value} {ys : List Value} {key : Int} (hk : I64 key) (hm : m ≤ 1000)
    (hn : Own w B 46 3 (.slice (some ⟨gn, on, none⟩) (m + 1) cn) (m + 1) (ys ++ [.int .i64 ((m : Int) + 1), .string ⟨#[97]⟩, uo])) (hyl : ys.length = m * 3) (ho : OwnNods w B ((List.range m).map manyNod) ys)
    (ht : Own w B 50 3 u m (((List.range m).map manyTie).flatMap Tie.enc)) (hB : B ≤ w.heap.size) :
    GrfR ((w.alloc (.cells #[.string ⟨#[107]⟩, .int .i64 1, .int .i64 key, .string .empty] 26)).setCell ⟨gn, on + m * 3 + 2, none⟩ (.slice (some ⟨w.heap.size, 0, none⟩) 1 1)) (.slice (some ⟨gn, on, none⟩) (m + 1) cn) u (rowG (keyK (m + 1) key) (m + 1) m) ∧
    ∀ T, 46 ≠ T → Same T w ((w.alloc (.cells #[.string ⟨#[107]⟩, .int .i64 1, .int .i64 key, .string .empty] 26)).setCell ⟨gn, on + m * 3 + 2, none⟩ (.slice (some ⟨w.heap.size, 0, none⟩) 1 1)) := by
  have hna := hn.alloc (.cells #[.string ⟨#[107]⟩, .int .i64 1, .int .i64 key, .string .empty] 26)
  obtain ⟨cc, fr, hblk⟩ := hna.is_cells (k := gn) rfl
  have hsm : ∀ T, 46 ≠ T → Same T (w.alloc (.cells #[.string ⟨#[107]⟩, .int .i64 1, .int .i64 key, .string .empty] 26)) ((w.alloc (.cells #[.string ⟨#[107]⟩, .int .i64 1, .int .i64 key, .string .empty] 26)).setCell ⟨gn, on + m * 3 + 2, none⟩ (.slice (some ⟨w.heap.size, 0, none⟩) 1 1)) := fun T hT =>
    Same.setCell (p := ⟨gn, on + m * 3 + 2, none⟩) hblk hT _
  have hall : ∀ T, 46 ≠ T → Same T w ((w.alloc (.cells #[.string ⟨#[107]⟩, .int .i64 1, .int .i64 key, .string .empty] 26)).setCell ⟨gn, on + m * 3 + 2, none⟩ (.slice (some ⟨w.heap.size, 0, none⟩) 1 1)) := fun T hT => (Same.alloc _ _).trans (hsm T hT)
  refine ⟨⟨?_, ?_⟩, hall⟩
  · have hst := hna.store (m * 3 + 2) (by omega) (.slice (some ⟨w.heap.size, 0, none⟩) 1 1)
    have hset : (ys ++ [.int .i64 ((m : Int) + 1), .string ⟨#[97]⟩, uo]).set (m * 3 + 2) (.slice (some ⟨w.heap.size, 0, none⟩) 1 1) = ys ++ [.int .i64 ((m : Int) + 1), .string ⟨#[97]⟩, .slice (some ⟨w.heap.size, 0, none⟩) 1 1] := by
      rw [List.set_append_right _ _ (by omega), show m * 3 + 2 - ys.length = 2 by omega]; rfl
    rw [hset] at hst
    have hpo : Own (w.alloc (.cells #[.string ⟨#[107]⟩, .int .i64 1, .int .i64 key, .string .empty] 26)) B 26 4 (.slice (some ⟨w.heap.size, 0, none⟩) 1 1) 1 [.string ⟨#[107]⟩, .int .i64 1, .int .i64 key, .string .empty] :=
      own_of_block (heap_alloc_new _ _) hB rfl (by simp [maxLen])
    have hkk : keyK (m + 1) key m = key := by unfold keyK; rw [if_pos (by omega)]
    have ho2 := OwnNods.snoc (d := rowN (keyK (m + 1) key) m) (u := .slice (some ⟨w.heap.size, 0, none⟩) 1 1) (by show I64 ((m : Int) + 1); unfold I64; omega) (by show 1 ≤ 1048576; omega)
      (fun p hp => by
        simp [rowN] at hp; subst hp
        rw [hkk]
        exact ⟨by show 1 ≤ 1048576; omega, by show I64 (1 : Int); unfold I64; omega, hk, by show 0 ≤ 1048576; omega⟩) (by
        have h := hpo.same (hsm _ (by decide))
        unfold rowN
        rw [hkk]
        exact h) (ho.same (hall _ (by decide)))
    rw [← row_nodes_eq] at ho2
    have hl : m + 1 = (rowG (keyK (m + 1) key) (m + 1) m).nodes.length := by simp [rowG]
    exact Own.nods (by rw [← hl]; exact hst) ho2
  · have h3 := ht.same (hall _ (by decide))
    have hl : m = (rowG (keyK (m + 1) key) (m + 1) m).ties.length := by simp [rowG]
    refine Own.ties (by rw [← hl]; exact h3) fun x hx => ?_
    simp only [rowG, List.mem_map, List.mem_range] at hx
    obtain ⟨j, hj, rfl⟩ := hx
    exact ⟨by show 1 ≤ 1048576; omega, by show I64 ((j : Int) + 1); unfold I64; omega, by show I64 ((j : Int) + 2); unfold I64; omega⟩
theorem row_ready {mx : Int} (h : mx = -1 ∨ (0 ≤ mx ∧ mx ≤ 3)) {g : Grf} (hg : grfE g = 0) : readySG (simpS mx) g = 0 := by
  unfold readySG; rw [if_pos (simp_ok h), hg]
set_option maxRecDepth 100000 in
set_option maxHeartbeats 16000000 in
theorem checkRow_any (n mx key : Int) (w : World) (_h0 : I64 n) (_h1 : I64 mx) (hk : I64 key) :
    Calls Try.prog 5 #[.int .i64 n, .int .i64 mx, .int .i64 key] w fun e w' => e = .returned (.bool true) ∧ Below w.heap.size w w' := by
  by_cases h1 : n < 2
  · go_enter Try.func5, Try.ntmps5
    go_wp2_with fail
    all_goals go_ret
    all_goals exact ⟨rfl, Below.refl _ _⟩
  by_cases h2 : 50 < n
  · have h1' : 2 ≤ n := by omega
    clear h1
    go_enter Try.func5, Try.ntmps5
    go_wp2_with fail
    all_goals go_ret
    all_goals exact ⟨rfl, Below.refl _ _⟩
  by_cases h3 : mx < 0
  · have h1' : 2 ≤ n := by omega
    have h2' : n ≤ 50 := by omega
    clear h1 h2
    go_enter Try.func5, Try.ntmps5
    go_wp2_with fail
    all_goals go_ret
    all_goals exact ⟨rfl, Below.refl _ _⟩
  by_cases h4 : 3 < mx
  · have h1' : 2 ≤ n := by omega
    have h2' : n ≤ 50 := by omega
    have h3' : 0 ≤ mx := by omega
    clear h1 h2 h3
    go_enter Try.func5, Try.ntmps5
    go_wp2_with fail
    all_goals go_ret
    all_goals exact ⟨rfl, Below.refl _ _⟩
  obtain ⟨m, rfl⟩ : ∃ m : Nat, n = (m : Int) + 1 := ⟨(n - 1).toNat, by omega⟩
  have hm1 : (2 : Int) ≤ (m : Int) + 1 := by omega
  have hm5 : (m : Int) + 1 ≤ 50 := by omega
  have hx0 : 0 ≤ mx := by omega
  have hx3 : mx ≤ 3 := by omega
  have hm := manyO_any (m + 1) m w (by omega) (by omega)
  rw [show ((m + 1 : Nat) : Int) = (m : Int) + 1 by omega] at hm
  have HL : Hid ((ofF (simpS mx) (manyG (m + 1) m)).length = if mx = 0 then m else 0) := by
    have h := row_first (n := m + 1) (by omega) mx hx0
    rwa [Nat.add_sub_cancel] at h
  have hrd : readySG (simpS mx) (manyG (m + 1) m) = 0 := row_ready (.inr ⟨hx0, hx3⟩) (many_ok (by omega) (by omega))
  have hfr : faultsR (simpS mx) (manyG (m + 1) m) = ofF (simpS mx) (manyG (m + 1) m) := by unfold faultsR; rw [if_pos hrd]
  have HRD := Lib.hid hrd
  have HFR := Lib.hid hfr
  have hmx := _h1
  clear h1 h2 h3 h4 _h0 _h1 hrd hfr
  go_enter Try.func5, Try.ntmps5
  go_wp2_with fail
  refine hm.mono ?_
  clear hm
  rintro e w1 ⟨vn, vt, xs, rfl, hO, hG, hb1⟩
  obtain ⟨An, cn, rfl, _, _⟩ := hO.n.form
  obtain ⟨At, ct, rfl, _, _⟩ := hO.t.form
  have hbx : Below w1.heap.size w1 (w1.alloc (.cells #[.slice An (m + 1) cn, .slice At m ct] 43)) := (Below.refl _ _).alloc (Nat.le_refl _) _
  have hq2 := heap_alloc_new w1 (.cells #[.slice An (m + 1) cn, .slice At m ct] 43)
  obtain ⟨gn, on, cn', hv, hBg, hgl⟩ := hO.n.addr (by omega)
  injection hv with e1 e2 e3
  subst e1
  subst e3
  clear e2
  obtain ⟨ys, uo, rfl, hon, hyl⟩ := OwnNods.unsnoc (l := (List.range m).map manyNod) (d := manyNod m) (by rw [← many_snoc]; exact hO.o)
  have hyl2 : ys.length = m * 3 := by simpa using hyl
  have HO := Lib.hid (And.intro hO.n (And.intro hon hO.t))
  have HYL := Lib.hid hyl2
  have HG := Lib.hid hG
  clear hO hG hon hyl hyl2
  go_upto_region 4 with fail
  generalize w1.alloc (.cells #[.slice (some ⟨gn, on, none⟩) (m + 1) cn, .slice At m ct] 43) = w2 at *
  have hB2 := hb1.trans (hbx.mono hb1.size)
  have x0 := block_cell hq2 0
  have x1 := block_cell hq2 1
  have HQ2 := Lib.hid hq2
  have hbd : Below w2.heap.size w2 w2.drew := (Below.refl _ _).drew
  have HS0 := simple_any mx w2.drew hmx
  have hw1s := hb1.size
  have HFA : Hid (∀ vk vb W, Below w2.heap.size w2 W → ScmR W vk vb (simpS mx) → Calls Try.prog 18 #[.agg #[vk, vb], .agg #[.slice (some ⟨gn, on, none⟩) (m + 1) cn, .slice At m ct]] W (fun e w' => ∃ u, e = .returned (.tuple #[u, .nilIface]) ∧ Sl fltL w' u (ofF (simpS mx) (manyG (m + 1) m)) ∧ Below W.heap.size W w')) := fun vk vb W hW hs => by
    have h := faults_any (simpS mx) (manyG (m + 1) m) vk vb _ _ W hs ((HG.out.below hbx).below hW)
    rw [HRD.out, HFR.out] at h
    exact h
  have hkeep := And.intro (cell_below hbd x0) (cell_below hbd x1)
  generalize ofF (simpS mx) (manyG (m + 1) m) = fl at *
  clear hq2 HFR HRD HG
  by_cases hz : mx = 0
  · subst hz
    have HFL : Hid (fl.length = m) := by unfold Hid; rw [HL.out, if_pos rfl]
    have hwr : IntKind.i64.wrap ((m : Int) + 1 - 1) = (m : Int) := by rw [IntWalk.i64_in _ (by omega)]; omega
    clear HL
    -- m: how many faults
    go_region_held3 (fun w' => w'.cell? ⟨w1.heap.size, 0, none⟩ = some (.slice (some ⟨gn, on, none⟩) (m + 1) cn) ∧ w'.cell? ⟨w1.heap.size, 1, none⟩ = some (.slice At m ct))
      (first
        | exact hkeep
        | go_keep)
      (first
        | (go_at_call 19
           refine HS0.mono ?_
           clear HS0
           rintro e w3 ⟨vk, vb, rfl, hs3, hb3⟩
           have hb23 := hbd.trans (hb3.mono hbd.size)
           have hkeep := And.intro (cell_below hb23 x0) (cell_below hb23 x1))
        | (go_at_call 18
           refine (HFA.out _ _ w3 hb23 hs3).mono ?_
           rintro e w4 ⟨u4, rfl, hu4, hb4⟩
           obtain ⟨A5, c5, hv5, _, _⟩ := hu4.form
           rw [HFL.out] at hv5
           subst hv5
           have hb24 := hb23.trans (hb4.mono hb23.size)
           have hkeep := And.intro (cell_below hb24 x0) (cell_below hb24 x1)))
    clear hs3 hu4 HFL HFA
    have hB4 := hB2.trans (hb24.mono hB2.size)
    have x0 := cell_below hb24 x0
    have x1 := cell_below hb24 x1
    by_cases hk1 : key < 1
    · clear HO HQ2
      go_wp2_with fail
      go_ret
      exact ⟨rfl, hB4⟩
    by_cases hk2 : (m : Int) + 1 ≤ key
    · have hk1' : 1 ≤ key := by omega
      clear HO HQ2 hk1
      go_wp2_with fail
      go_ret
      exact ⟨rfl, hB4⟩
    have hk1' : 1 ≤ key := by omega
    have hk2' : key < (m : Int) + 1 := by omega
    have hb14 := hbx.trans (hb24.mono hbx.size)
    have HN4 := Lib.hid (HO.out.1.below hb14)
    have HD4 := Lib.hid (HO.out.2.1.same (Same.below hb14))
    have HT4 := Lib.hid (HO.out.2.2.below hb14)
    have HQ4 := Lib.hid ((hb24.block _ (Array.getElem?_eq_some_iff.1 HQ2.out).1).trans HQ2.out)
    have hw4s := hb14.size
    clear hk1 hk2 HO HQ2 hb3 hb4 hb23 hb24 hkeep hbd hbx hB2 hb14
    have hbd : Below w4.heap.size w4 w4.drew := (Below.refl _ _).drew
    have HN := number_any key w4.drew
    have hkeep := cell_below hbd x0
    have hxs : (ys ++ [.int .i64 (manyNod m).id, .string (manyNod m).kind, uo])[m * 3 + 2]? = some uo := by
      rw [List.getElem?_append_right (by rw [HYL.out]; omega), HYL.out, show m * 3 + 2 - m * 3 = 2 by omega]; rfl
    have y0 : w4.cell? ⟨gn, on + m * 3 + 2, none⟩ = some uo := HN4.out.cell rfl hxs
    have f0 : w4.frozen? ⟨gn, on + m * 3 + 2, none⟩ = false := HN4.out.frozen rfl _
    have hm0 : (0 : Int) ≤ (m : Int) := by omega
    have hml : (m : Int) < ((m + 1 : Nat) : Int) := by omega
    have hml2 : (m : Int) < (m : Int) + 1 := by omega
    have hml3 : m < m + 1 := by omega
    have hne : ¬ gn = w1.heap.size := by omega
    have hne2 : ¬ w1.heap.size = gn := by omega
    have hwr2 : IntKind.i64.wrap (m : Int) = (m : Int) := IntWalk.i64_in _ (by omega)
    clear hxs
    go_wp2_with fail
    go_region_held3 (fun w' => w'.cell? ⟨w1.heap.size, 0, none⟩ = some (.slice (some ⟨gn, on, none⟩) (m + 1) cn))
      (first
        | exact hkeep
        | go_keep)
      (first
        | (go_at_call 20
           refine HN.mono ?_
           clear HN
           rintro e w5 ⟨rfl, hb5⟩
           have hb45 := hbd.trans (hb5.mono hbd.size)
           have hkeep := cell_below hb45 x0
           have hkx := fun o => cell_below ((Below.refl w5.heap.size w5).alloc (Nat.le_refl _) o) hkeep
           have d0 := cell_below hb45 y0
           have d1 := fun o => cell_below ((Below.refl w5.heap.size w5).alloc (Nat.le_refl _) o) d0
           have f1 : w5.frozen? ⟨gn, on + m * 3 + 2, none⟩ = false := (HN4.out.below hb45).frozen rfl _
           have f2 : ∀ o, (w5.alloc o).frozen? ⟨gn, on + m * 3 + 2, none⟩ = false := fun o => ((HN4.out.below hb45).alloc o).frozen rfl _))
    have hrp := row_put (key := key) hk (by omega) (HN4.out.below hb45) HYL.out (HD4.out.same (Same.below hb45)) (HT4.out.below hb45) (by have := hb45.size; omega)
    obtain ⟨hG8, hS8⟩ := hrp
    have hq5 := (hb45.block _ (Array.getElem?_eq_some_iff.1 HQ4.out).1).trans HQ4.out
    have hq8 := hS8 43 (by decide) _ _ _ hq5
    have hB8 := ((hB4.trans (hb45.mono hB4.size)).alloc (by have := hb45.size; omega) (.cells #[.string ⟨#[107]⟩, .int .i64 1, .int .i64 key, .string .empty] 26)).setCell (p := ⟨gn, on + m * 3 + 2, none⟩) hBg (.slice (some ⟨w5.heap.size, 0, none⟩) 1 1)
    have hw8 : w.heap.size ≤ w5.heap.size + 1 := by have := hb45.size; omega
    clear hS8 hq5 HN4 HD4 HT4 HQ4 hkeep hkx d0 d1 f1 f2 hb5 hb45 hbd x0 x1 y0 f0
    generalize (w5.alloc (.cells #[.string ⟨#[107]⟩, .int .i64 1, .int .i64 key, .string .empty] 26)).setCell ⟨gn, on + m * 3 + 2, none⟩ (.slice (some ⟨w5.heap.size, 0, none⟩) 1 1) = w8 at *
    have hrd : readySG (simpS (-1)) (rowG (keyK (m + 1) key) (m + 1) m) = 0 := row_ready (.inl rfl) (row_ok (fun i hi => by unfold keyK; split <;> omega) (by omega) (by omega))
    have hrs : faultsR (simpS (-1)) (rowG (keyK (m + 1) key) (m + 1) m) = [⟨4, (m : Int) + 1, ⟨#[107]⟩⟩] := by
      unfold faultsR
      rw [if_pos hrd]
      have h := row_second (n := m + 1) (key := key) hk1' (by omega)
      rw [Nat.add_sub_cancel, show ((m + 1 : Nat) : Int) = (m : Int) + 1 by omega] at h
      exact h
    have HFB : Hid (∀ vk vb W, Below w8.heap.size w8 W → ScmR W vk vb (simpS (-1)) → Calls Try.prog 18 #[.agg #[vk, vb], .agg #[.slice (some ⟨gn, on, none⟩) (m + 1) cn, .slice At m ct]] W (fun e w' => ∃ u, e = .returned (.tuple #[u, .nilIface]) ∧ Sl fltL w' u [⟨4, (m : Int) + 1, ⟨#[107]⟩⟩] ∧ Below W.heap.size W w')) := fun vk vb W hW hs => by
      have h := faults_any (simpS (-1)) (rowG (keyK (m + 1) key) (m + 1) m) vk vb _ _ W hs (hG8.below hW)
      rw [hrd, hrs] at h
      exact h
    have hbd : Below w8.heap.size w8 w8.drew := (Below.refl _ _).drew
    have x0 := block_cell hq8 0
    have x1 := block_cell hq8 1
    have HS1 := simple_any (-1) w8.drew (by unfold I64; omega)
    have hkeep := And.intro (cell_below hbd x0) (cell_below hbd x1)
    clear hG8 hq8 hrd hrs
    go_wp2_with fail
    go_region_held3 (fun w' => w'.cell? ⟨w1.heap.size, 0, none⟩ = some (.slice (some ⟨gn, on, none⟩) (m + 1) cn) ∧ w'.cell? ⟨w1.heap.size, 1, none⟩ = some (.slice At m ct))
      (first
        | exact hkeep
        | go_keep)
      (first
        | (go_at_call 19
           refine HS1.mono ?_
           clear HS1
           rintro e w9 ⟨vk9, vb9, rfl, hs9, hb9⟩
           have hb89 := hbd.trans (hb9.mono hbd.size)
           have hkeep := And.intro (cell_below hb89 x0) (cell_below hb89 x1))
        | (go_at_call 18
           refine (HFB.out _ _ w9 hb89 hs9).mono ?_
           rintro e wz ⟨uz, rfl, huz, hbz⟩
           obtain ⟨Az, cz, hvz, _, _⟩ := huz.form
           have hvz : uz = .slice Az 1 cz := hvz
           subst hvz
           have hb8z := hb89.trans (hbz.mono hb89.size)
           have hkeep := And.intro (cell_below hb8z x0) (cell_below hb8z x1)))
    obtain ⟨bz, oz, rfl, _, r0, r1, _⟩ := flt_at huz (k := 0) (d := ⟨4, (m : Int) + 1, ⟨#[107]⟩⟩) rfl
    rw [Nat.zero_mul, Nat.add_zero] at r0 r1
    have hBz := hB8.trans (hb8z.mono hB8.size)
    clear huz hkeep x0 x1 HFB
    go_wp2_with fail
    go_ret
    exact ⟨rfl, hBz⟩
  · have hzb : (mx == 0) = false := by simpa using hz
    have HFL : Hid (fl.length = 0) := by unfold Hid; rw [HL.out, if_neg hz]
    have hwr : IntKind.i64.wrap ((m : Int) + 1 - 1) = (m : Int) := by rw [IntWalk.i64_in _ (by omega)]; omega
    clear HL hz
    -- 0: how many faults
    go_region_held3 (fun w' => w'.cell? ⟨w1.heap.size, 0, none⟩ = some (.slice (some ⟨gn, on, none⟩) (m + 1) cn) ∧ w'.cell? ⟨w1.heap.size, 1, none⟩ = some (.slice At m ct))
      (first
        | exact hkeep
        | go_keep)
      (first
        | (go_at_call 19
           refine HS0.mono ?_
           clear HS0
           rintro e w3 ⟨vk, vb, rfl, hs3, hb3⟩
           have hb23 := hbd.trans (hb3.mono hbd.size)
           have hkeep := And.intro (cell_below hb23 x0) (cell_below hb23 x1))
        | (go_at_call 18
           refine (HFA.out _ _ w3 hb23 hs3).mono ?_
           rintro e w4 ⟨u4, rfl, hu4, hb4⟩
           obtain ⟨A5, c5, hv5, _, _⟩ := hu4.form
           rw [HFL.out] at hv5
           subst hv5
           have hb24 := hb23.trans (hb4.mono hb23.size)
           have hkeep := And.intro (cell_below hb24 x0) (cell_below hb24 x1)))
    clear hs3 hu4 HFL HFA
    have hB4 := hB2.trans (hb24.mono hB2.size)
    have x0 := cell_below hb24 x0
    have x1 := cell_below hb24 x1
    by_cases hk1 : key < 1
    · clear HO HQ2
      go_wp2_with fail
      go_ret
      exact ⟨rfl, hB4⟩
    by_cases hk2 : (m : Int) + 1 ≤ key
    · have hk1' : 1 ≤ key := by omega
      clear HO HQ2 hk1
      go_wp2_with fail
      go_ret
      exact ⟨rfl, hB4⟩
    have hk1' : 1 ≤ key := by omega
    have hk2' : key < (m : Int) + 1 := by omega
    have hb14 := hbx.trans (hb24.mono hbx.size)
    have HN4 := Lib.hid (HO.out.1.below hb14)
    have HD4 := Lib.hid (HO.out.2.1.same (Same.below hb14))
    have HT4 := Lib.hid (HO.out.2.2.below hb14)
    have HQ4 := Lib.hid ((hb24.block _ (Array.getElem?_eq_some_iff.1 HQ2.out).1).trans HQ2.out)
    have hw4s := hb14.size
    clear hk1 hk2 HO HQ2 hb3 hb4 hb23 hb24 hkeep hbd hbx hB2 hb14
    have hbd : Below w4.heap.size w4 w4.drew := (Below.refl _ _).drew
    have HN := number_any key w4.drew
    have hkeep := cell_below hbd x0
    have hxs : (ys ++ [.int .i64 (manyNod m).id, .string (manyNod m).kind, uo])[m * 3 + 2]? = some uo := by
      rw [List.getElem?_append_right (by rw [HYL.out]; omega), HYL.out, show m * 3 + 2 - m * 3 = 2 by omega]; rfl
    have y0 : w4.cell? ⟨gn, on + m * 3 + 2, none⟩ = some uo := HN4.out.cell rfl hxs
    have f0 : w4.frozen? ⟨gn, on + m * 3 + 2, none⟩ = false := HN4.out.frozen rfl _
    have hm0 : (0 : Int) ≤ (m : Int) := by omega
    have hml : (m : Int) < ((m + 1 : Nat) : Int) := by omega
    have hml2 : (m : Int) < (m : Int) + 1 := by omega
    have hml3 : m < m + 1 := by omega
    have hne : ¬ gn = w1.heap.size := by omega
    have hne2 : ¬ w1.heap.size = gn := by omega
    have hwr2 : IntKind.i64.wrap (m : Int) = (m : Int) := IntWalk.i64_in _ (by omega)
    clear hxs
    go_wp2_with fail
    go_region_held3 (fun w' => w'.cell? ⟨w1.heap.size, 0, none⟩ = some (.slice (some ⟨gn, on, none⟩) (m + 1) cn))
      (first
        | exact hkeep
        | go_keep)
      (first
        | (go_at_call 20
           refine HN.mono ?_
           clear HN
           rintro e w5 ⟨rfl, hb5⟩
           have hb45 := hbd.trans (hb5.mono hbd.size)
           have hkeep := cell_below hb45 x0
           have hkx := fun o => cell_below ((Below.refl w5.heap.size w5).alloc (Nat.le_refl _) o) hkeep
           have d0 := cell_below hb45 y0
           have d1 := fun o => cell_below ((Below.refl w5.heap.size w5).alloc (Nat.le_refl _) o) d0
           have f1 : w5.frozen? ⟨gn, on + m * 3 + 2, none⟩ = false := (HN4.out.below hb45).frozen rfl _
           have f2 : ∀ o, (w5.alloc o).frozen? ⟨gn, on + m * 3 + 2, none⟩ = false := fun o => ((HN4.out.below hb45).alloc o).frozen rfl _))
    have hrp := row_put (key := key) hk (by omega) (HN4.out.below hb45) HYL.out (HD4.out.same (Same.below hb45)) (HT4.out.below hb45) (by have := hb45.size; omega)
    obtain ⟨hG8, hS8⟩ := hrp
    have hq5 := (hb45.block _ (Array.getElem?_eq_some_iff.1 HQ4.out).1).trans HQ4.out
    have hq8 := hS8 43 (by decide) _ _ _ hq5
    have hB8 := ((hB4.trans (hb45.mono hB4.size)).alloc (by have := hb45.size; omega) (.cells #[.string ⟨#[107]⟩, .int .i64 1, .int .i64 key, .string .empty] 26)).setCell (p := ⟨gn, on + m * 3 + 2, none⟩) hBg (.slice (some ⟨w5.heap.size, 0, none⟩) 1 1)
    have hw8 : w.heap.size ≤ w5.heap.size + 1 := by have := hb45.size; omega
    clear hS8 hq5 HN4 HD4 HT4 HQ4 hkeep hkx d0 d1 f1 f2 hb5 hb45 hbd x0 x1 y0 f0
    generalize (w5.alloc (.cells #[.string ⟨#[107]⟩, .int .i64 1, .int .i64 key, .string .empty] 26)).setCell ⟨gn, on + m * 3 + 2, none⟩ (.slice (some ⟨w5.heap.size, 0, none⟩) 1 1) = w8 at *
    have hrd : readySG (simpS (-1)) (rowG (keyK (m + 1) key) (m + 1) m) = 0 := row_ready (.inl rfl) (row_ok (fun i hi => by unfold keyK; split <;> omega) (by omega) (by omega))
    have hrs : faultsR (simpS (-1)) (rowG (keyK (m + 1) key) (m + 1) m) = [⟨4, (m : Int) + 1, ⟨#[107]⟩⟩] := by
      unfold faultsR
      rw [if_pos hrd]
      have h := row_second (n := m + 1) (key := key) hk1' (by omega)
      rw [Nat.add_sub_cancel, show ((m + 1 : Nat) : Int) = (m : Int) + 1 by omega] at h
      exact h
    have HFB : Hid (∀ vk vb W, Below w8.heap.size w8 W → ScmR W vk vb (simpS (-1)) → Calls Try.prog 18 #[.agg #[vk, vb], .agg #[.slice (some ⟨gn, on, none⟩) (m + 1) cn, .slice At m ct]] W (fun e w' => ∃ u, e = .returned (.tuple #[u, .nilIface]) ∧ Sl fltL w' u [⟨4, (m : Int) + 1, ⟨#[107]⟩⟩] ∧ Below W.heap.size W w')) := fun vk vb W hW hs => by
      have h := faults_any (simpS (-1)) (rowG (keyK (m + 1) key) (m + 1) m) vk vb _ _ W hs (hG8.below hW)
      rw [hrd, hrs] at h
      exact h
    have hbd : Below w8.heap.size w8 w8.drew := (Below.refl _ _).drew
    have x0 := block_cell hq8 0
    have x1 := block_cell hq8 1
    have HS1 := simple_any (-1) w8.drew (by unfold I64; omega)
    have hkeep := And.intro (cell_below hbd x0) (cell_below hbd x1)
    clear hG8 hq8 hrd hrs
    go_wp2_with fail
    go_region_held3 (fun w' => w'.cell? ⟨w1.heap.size, 0, none⟩ = some (.slice (some ⟨gn, on, none⟩) (m + 1) cn) ∧ w'.cell? ⟨w1.heap.size, 1, none⟩ = some (.slice At m ct))
      (first
        | exact hkeep
        | go_keep)
      (first
        | (go_at_call 19
           refine HS1.mono ?_
           clear HS1
           rintro e w9 ⟨vk9, vb9, rfl, hs9, hb9⟩
           have hb89 := hbd.trans (hb9.mono hbd.size)
           have hkeep := And.intro (cell_below hb89 x0) (cell_below hb89 x1))
        | (go_at_call 18
           refine (HFB.out _ _ w9 hb89 hs9).mono ?_
           rintro e wz ⟨uz, rfl, huz, hbz⟩
           obtain ⟨Az, cz, hvz, _, _⟩ := huz.form
           have hvz : uz = .slice Az 1 cz := hvz
           subst hvz
           have hb8z := hb89.trans (hbz.mono hb89.size)
           have hkeep := And.intro (cell_below hb8z x0) (cell_below hb8z x1)))
    obtain ⟨bz, oz, rfl, _, r0, r1, _⟩ := flt_at huz (k := 0) (d := ⟨4, (m : Int) + 1, ⟨#[107]⟩⟩) rfl
    rw [Nat.zero_mul, Nat.add_zero] at r0 r1
    have hBz := hB8.trans (hb8z.mono hB8.size)
    clear huz hkeep x0 x1 HFB
    go_wp2_with fail
    go_ret
    exact ⟨rfl, hBz⟩
end Go.Proofs.Ythefofclbepkoaa
