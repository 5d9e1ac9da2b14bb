/- Parts: ChkH, OpenA, OpenB, OpenC. -/
import Derived.Test.YthefofclbepkoaaMg23
import Derived.Test.YthefofclbepkoaaMg01
import Derived.Test.YthefofclbepkoaaRows
import Derived.Deep.Slices
import Derived.Lib.SmallJoins
import Derived.JoinedCond
import Derived.Carry
import Derived.ChangeMaps5
/- Contract: the law CheckHolds answers true. -/
namespace Go.Proofs.Ythefofclbepkoaa
open Go Go.RowKit



theorem flt_at {w : World} {A : Option Addr} {k n c : Nat} {l : List Flt} (h : Sl fltL w (.slice A n c) l) {d : Flt} (hk : l[k]? = some d) :
    ∃ b o, A = some ⟨b, o, none⟩ ∧ d.ok ∧ w.cell? ⟨b, o + k * 3, none⟩ = some (.int .i64 d.what) ∧ w.cell? ⟨b, o + k * 3 + 1, none⟩ = some (.int .i64 d.node) ∧ w.cell? ⟨b, o + k * 3 + 2, none⟩ = some (.string d.name) := by
  obtain ⟨b, o, hA, hall⟩ := h.all (len_pos hk)
  obtain ⟨cs, ⟨rfl, ok⟩, hx⟩ := hall k d hk
  exact ⟨b, o, hA, ok, hx 0 _ rfl, hx 1 _ rfl, hx 2 _ rfl⟩
def ckOneG : Grf := ⟨[⟨1, ⟨#[97]⟩, []⟩], []⟩
def ckNoS : Scm := ⟨[], []⟩
theorem ck_ready : readySG ckNoS ckOneG = 0 := by decide +kernel
theorem ck_fact : faultsR ckNoS ckOneG = [⟨1, 1, ⟨#[97]⟩⟩] := by
  unfold faultsR
  rw [if_pos ck_ready]
  rfl
theorem ck_nods {W : World} {b : Nat} {fr : Nat × Nat} (g0 : W.heap[b]? = some (.cells #[.int .i64 1, .string ⟨#[97]⟩, .slice none 0 0] 46 fr)) : Sl nodL W (.slice (some ⟨b, 0, none⟩) 1 1) ckOneG.nodes := by
  refine ⟨_, 1, rfl, Nat.le_refl _, by unfold maxLen; omega, fun i d hi => ?_⟩
  have hI1 : I64 1 := ⟨by omega, by omega⟩
  have hS : Sm ⟨#[97]⟩ := by unfold Sm; show 1 ≤ 1048576; omega
  match i, hi with
  | 0, hi =>
    injection hi with hi; subst hi
    refine ⟨_, _, [.int .i64 1, .string ⟨#[97]⟩, .slice none 0 0], rfl, ⟨_, rfl, hI1, hS, Sl.nil 0 (Nat.zero_le _) none⟩, fun j u hj => ?_⟩
    match j, hj with
    | 0, hj => injection hj with hj; subst hj; exact cell_of_row W b 0 _ _ _ g0
    | 1, hj => injection hj with hj; subst hj; exact cell_of_row W b 1 _ _ _ g0
    | 2, hj => injection hj with hj; subst hj; exact cell_of_row W b 2 _ _ _ g0
theorem conf_empty {s : Scm} (h : (scmE s).2 = 0) : confR s ⟨[], []⟩ = true ∧ readySG s ⟨[], []⟩ = 0 := by
  have hg : grfE ⟨[], []⟩ = 0 := by decide +kernel
  have hr : readySG s ⟨[], []⟩ = 0 := by unfold readySG; rw [if_pos h, hg]
  refine ⟨?_, hr⟩
  unfold confR faultsR
  rw [if_pos hr, ofF_empty, decide_eq_true hr]
  rfl
theorem conf_sum {s : Scm} {g : Grf} (h : confR s g = true) : sumA s g.nodes = 0 := by
  unfold confR at h
  simp only [Bool.and_eq_true, decide_eq_true_eq] at h
  obtain ⟨h1, h2⟩ := h
  unfold faultsR at h2
  rw [if_pos h1] at h2
  exact sumA_zero (ofF_alone (List.eq_nil_of_length_eq_zero h2))
theorem grf_nodE {g : Grf} (h : grfE g = 0) : ∀ n ∈ g.nodes, nodE n = 0 := fun n hn => ((grf_ok h).2.2.2 n hn).2
set_option maxRecDepth 100000 in
set_option maxHeartbeats 8000000 in
theorem checkHolds_any (s : Scm) (g : Grf) (vk vb vn vt : Value) (w : World) (hs : ScmR w vk vb s) (hg : GrfR w vn vt g) :
    Calls Try.prog 6 #[.agg #[vk, vb], .agg #[vn, vt]] w fun e w' => e = .returned (.bool true) ∧ Below w.heap.size w w' := by
  obtain ⟨A1, c1, rfl, _, _⟩ := hs.1.form
  obtain ⟨A2, c2, rfl, _, _⟩ := hs.2.form
  obtain ⟨A3, c3, rfl, _, _⟩ := hg.1.form
  obtain ⟨A4, c4, rfl, _, _⟩ := hg.2.form
  obtain ⟨W0, hW0⟩ : ∃ W0, W0 = (w.alloc (.cells #[.slice A1 s.kinds.length c1, .slice A2 s.bonds.length c2] 68)).alloc (.cells #[.slice A3 g.nodes.length c3, .slice A4 g.ties.length c4] 43) := ⟨_, rfl⟩
  have hb0 : Below w.heap.size w W0 := by rw [hW0]; exact ((Below.refl _ _).alloc (Nat.le_refl _) _).alloc (by simp) _
  have g0 : W0.heap[w.heap.size]? = some (.cells #[.slice A1 s.kinds.length c1, .slice A2 s.bonds.length c2] 68 (0, 0)) := by
    rw [hW0, Below.heap_alloc _ _ _ (by simp)]; exact heap_alloc_new _ _
  have g1 : W0.heap[w.heap.size + 1]? = some (.cells #[.slice A3 g.nodes.length c3, .slice A4 g.ties.length c4] 43 (0, 0)) := by
    have := heap_alloc_new (w.alloc (.cells #[.slice A1 s.kinds.length c1, .slice A2 s.bonds.length c2] 68)) (.cells #[.slice A3 g.nodes.length c3, .slice A4 g.ties.length c4] 43); rw [hW0]; simpa using this
  have hW0' := hW0.symm
  have HG0 := Lib.hid g0
  have HG1 := Lib.hid g1
  have x0 := block_cell g0 0
  have x1 := block_cell g0 1
  have y0 := block_cell g1 0
  have y1 := block_cell g1 1
  have hw0 := hb0.size
  have HS := Lib.hid (hs.below hb0)
  have HG := Lib.hid (hg.below hb0)
  clear hs hg g0 g1 hW0
  have X0 := Lib.hid x0
  have X1 := Lib.hid x1
  have Y0 := Lib.hid y0
  have Y1 := Lib.hid y1
  clear x0 x1 y0 y1
  go_enter Try.func6, Try.ntmps6
  go_upto_region 1 with fail
  clear hW0'
  go_upto_region 2 with fail
  obtain ⟨W3, hW3⟩ : ∃ W3, W3 = (W0.alloc (.cells #[.int .i64 1, .string ⟨#[97]⟩, .slice none 0 0] 46)).alloc (.cells #[.slice (some ⟨W0.heap.size, 0, none⟩) 1 1, .slice none 0 0] 43) := ⟨_, rfl⟩
  have hb3 : Below W0.heap.size W0 W3 := by rw [hW3]; exact ((Below.refl _ _).alloc (Nat.le_refl _) _).alloc (by simp) _
  have q0 : W3.heap[W0.heap.size]? = some (.cells #[.int .i64 1, .string ⟨#[97]⟩, .slice none 0 0] 46 (0, 0)) := by
    rw [hW3, Below.heap_alloc _ _ _ (by simp)]; exact heap_alloc_new _ _
  have q1 : W3.heap[W0.heap.size + 1]? = some (.cells #[.slice (some ⟨W0.heap.size, 0, none⟩) 1 1, .slice none 0 0] 43 (0, 0)) := by
    have := heap_alloc_new (W0.alloc (.cells #[.int .i64 1, .string ⟨#[97]⟩, .slice none 0 0] 46)) (.cells #[.slice (some ⟨W0.heap.size, 0, none⟩) 1 1, .slice none 0 0] 43); rw [hW3]; simpa using this
  have p0 := block_cell q1 0
  have p1 := block_cell q1 1
  have hf := faults_any ckNoS ckOneG (.slice none 0 0) (.slice none 0 0) _ _ W3 ⟨Sl.nil 0 (Nat.zero_le _) none, Sl.nil 0 (Nat.zero_le _) none⟩ ⟨ck_nods q0, Sl.nil 0 (Nat.zero_le _) none⟩
  rw [ck_fact, ck_ready] at hf
  unfold RetF at hf
  rw [errV_zero rfl] at hf
  rw [← hW3]
  clear hW3 q0 q1
  go_wp2_with fail
  refine hf.mono ?_
  clear hf p0 p1
  rintro e w1 ⟨u, rfl, hu, hb1⟩
  obtain ⟨A5, c5, hv5, _, _⟩ := hu.form
  have hv5 : u = .slice A5 1 c5 := hv5
  subst hv5
  obtain ⟨b5, o5, rfl, _, r0, r1, _⟩ := flt_at hu (k := 0) (d := ⟨1, 1, ⟨#[97]⟩⟩) rfl
  rw [Nat.zero_mul, Nat.add_zero] at r0 r1
  have hb01 := hb3.trans (hb1.mono hb3.size)
  have hB1 := hb0.trans (hb01.mono hw0)
  have x0 := cell_below hb01 X0.out
  have x1 := cell_below hb01 X1.out
  have y0 := cell_below hb01 Y0.out
  have y1 := cell_below hb01 Y1.out
  have hcf := conforms_any s g _ _ _ _ w1 (HS.out.below hb01) (HG.out.below hb01)
  have HZ : Hid (readySG s g = 0 → (scmE s).2 = 0 ∧ grfE g = 0) := readySG_zero
  have HSUM : Hid (confR s g = true → sumA s g.nodes = 0) := conf_sum
  generalize readySG s g = z at *
  generalize confR s g = cf at *
  clear hu hb1 hb3
  go_wp2_with fail
  refine hcf.mono ?_
  clear hcf r0 r1
  rintro e w2 ⟨rfl, hb2⟩
  have hb02 := hb01.trans (hb2.mono hb01.size)
  have hB2 := hb0.trans (hb02.mono hw0)
  have x0 := cell_below hb02 X0.out
  have x1 := cell_below hb02 X1.out
  clear hb01 hb2 y0 y1
  by_cases he : z = 0
  case neg =>
    rw [errV_some he]
    clear he HZ HSUM
    go_wp2_with fail
    go_ret
    exact ⟨rfl, hB2⟩
  obtain ⟨z1, z2⟩ := HZ.out he
  have HZ1 := Lib.hid z1
  have HND := Lib.hid (grf_nodE z2)
  have HRC := Lib.hid (grf_recs z2)
  have HKL : Hid (∀ nm, (kfl s nm).length ≤ 8) := kfl_len (scm_right z1).1
  have hnl := (grf_ok z2).1
  have hcf := conforms_any s ⟨[], []⟩ _ _ (.slice none 0 0) (.slice none 0 0) w2 (HS.out.below hb02) ⟨Sl.nil 0 (Nat.zero_le _) none, Sl.nil 0 (Nat.zero_le _) none⟩
  rw [(conf_empty z1).1, (conf_empty z1).2, errV_zero rfl] at hcf
  rw [errV_zero he]
  clear he HZ z1 z2
  go_wp2_with fail
  refine hcf.mono ?_
  clear hcf x0 x1
  rintro e w3 ⟨rfl, hb3⟩
  have hb03 := hb02.trans (hb3.mono hb02.size)
  clear hb02 hb3 hB2
  have HSL : Hid (∀ k, sumA s (g.nodes.take k) ≤ 2000) := fun k => by
    have h1 := sumA_le (s := s) (b := 17) (l := g.nodes.take k) (fun n hn => by
      have h2 := aloneF_len s n
      have h3 := (HRC.out n (List.mem_of_mem_take hn)).1
      have h4 := HKL.out n.kind
      omega)
    have h5 : (g.nodes.take k).length ≤ 60 := by rw [List.length_take]; omega
    omega
  go_wp2_with fail
  go_loopw [12, 13] (fun a i wr => ∃ k : Nat, k ≤ g.nodes.length ∧ i = .int .i64 k ∧ a = .int .i64 (sumA s (g.nodes.take k) : Nat) ∧ Below w3.heap.size w3 wr) (fun _ i _ => g.nodes.length - (intOf i).toNat)
  case atStart => exact ⟨0, Nat.zero_le _, rfl, rfl, Below.refl _ _⟩
  case round =>
    obtain ⟨k, hk, rfl, rfl, hbr⟩ := hrel
    have hb0r := hb03.trans (hbr.mono hb03.size)
    have x0 := cell_below hb0r X0.out
    have x1 := cell_below hb0r X1.out
    have y0 := cell_below hb0r Y0.out
    by_cases hlt : k < g.nodes.length
    · obtain ⟨n, hd⟩ : ∃ d, g.nodes[k]? = some d := ⟨_, List.getElem?_eq_getElem hlt⟩
      have hlt' : (k : Int) < (g.nodes.length : Int) := by omega
      obtain ⟨gb, o, rfl, u, hid, hkd, hpr, q0, q1, q2⟩ := nod_at (HG.out.below hb0r).1 hd
      obtain ⟨Au, cu, rfl, _, _⟩ := hpr.form
      have hmem := List.mem_of_getElem? hd
      have hE : nodeFE s n = 0 := by unfold nodeFE; rw [if_pos HZ1.out]; exact HND.out n hmem
      have hR : nodeFR s n = aloneF s n := by unfold nodeFR; rw [if_pos hE]
      have HNF : Hid (∀ W, Below wr.heap.size wr W → Calls Try.prog 22 #[.agg #[.slice A1 s.kinds.length c1, .slice A2 s.bonds.length c2], .agg #[.int .i64 n.id, .string n.kind, .slice Au n.props.length cu]] W (RetF (aloneF s n) 0 W)) := fun W h => by
        have h1 := nodeFaults_any s n _ _ _ W ((HS.out.below hb0r).below h) hid hkd (hpr.below h)
        rw [hE, hR] at h1
        exact h1
      have HST := Lib.hid (sumA_snoc (s := s) hd)
      have hs1 := HSL.out k
      have hs2 := HSL.out (k + 1)
      rw [HST.out] at hs2
      generalize aloneF s n = fl at *
      generalize sumA s (g.nodes.take k) = sm at *
      have hs3 : (sm : Int) + (fl.length : Int) ≤ 2000 := by omega
      have hs4 : (0 : Int) ≤ (sm : Int) := by omega
      have hs5 : (0 : Int) ≤ (fl.length : Int) := by omega
      clear hd hmem hE hR hpr hid hkd hs1 hs2
      go_wp2_with fail
      refine wp_mid_k 6 _ rfl rfl (by kernel_rfl) (by kernel_rfl) ?_
      simp only [List.take_succ_cons, List.take_zero, List.drop_succ_cons, List.drop_zero]
      repeat (go_big_quiet_step (fail))
      refine wpQuiet_nil ?_
      intro _ hw'
      obtain ⟨nq, hw''⟩ := hw'
      subst hw''
      intro K hK
      have hk1 := HNF.out (wr.drewN nq) (below_drewN (Below.refl _ _) nq)
      unfold RetF at hk1
      rw [errV_zero rfl] at hk1
      clear HNF
      go_wp2_with fail
      refine hk1.mono ?_
      clear hk1
      rintro e w4 ⟨u4, rfl, hu4, hb4⟩
      obtain ⟨A4x, c4x, rfl, _, _⟩ := hu4.form
      have hb34 := (below_drewN (Below.refl wr.heap.size wr) nq).trans hb4
      clear hu4 hb4
      refine hK _ _ ?_
      repeat (go_big_quiet_step (fail))
      refine wpQuiet_nil ?_
      intro _ hw'
      obtain ⟨nq2, hw''⟩ := hw'
      subst hw''
      clear hK
      have hbW := below_drewN hb34 nq2
      generalize w4.drewN nq2 = w5 at *
      have hb5 := hbr.trans (hbW.mono hbr.size)
      generalize fl.length = nl at *
      clear hb34 hbW x0 x1 y0 q0 q1 q2 hbr hb0r
      go_wp2_with fail
      go_roundw
      case rel => exact ⟨k + 1, by omega, by go_num, by rw [HST.out]; go_num, hb5⟩
      case measure => simp [intOf]; omega
    · obtain rfl : k = g.nodes.length := by omega
      rw [List.take_length]
      have hs1 := HSL.out g.nodes.length
      rw [List.take_length] at hs1
      have hBr := hb0.trans (hb0r.mono hw0)
      cases cf with
      | false =>
        generalize sumA s g.nodes = sm at *
        clear HSUM
        go_wp2_with fail
        go_ret
        exact ⟨rfl, hBr⟩
      | true =>
        rw [HSUM.out rfl]
        clear HSUM hs1
        go_wp2_with fail
        go_ret
        exact ⟨rfl, hBr⟩
end Go.Proofs.Ythefofclbepkoaa

/- Plain: what comes in, read as data of bulk at most 1048576, lies in memory as the contracts want it. -/
namespace Go.Proofs.Ythefofclbepkoaa
open Go Go.RowKit Go.Deep Go.ChangeShapes Go.WideShapes Go.Joins

/-! ### Bulk -/
section
variable {H : Type}
theorem bulk_part {d : DataW H} {l : List (DataW H)} (h : d ∈ l) : Rows.uptoBulk d ≤ Rows.uptoBulkAll l := by
  induction l with
  | nil => cases h
  | cons x r ih =>
    simp only [Rows.uptoBulkAll]
    cases List.mem_cons.1 h with
    | inl e => subst e; omega
    | inr e => have := ih e; omega
theorem bulk_small {ds : List (DataW H)} (hk : Rows.uptoSmall H ds = true) {d : DataW H} (h : d ∈ ds) : Rows.uptoBulk d ≤ 1048576 := by
  have h1 : Rows.uptoBulkAll ds ≤ 1048576 := of_decide_eq_true hk
  have := bulk_part h
  omega
end

/-- Data of type t lie as L says. -/
def Opens {D : Type} (P : Program) (L : Lay D) (t : TypeId) : Prop :=
  ∀ (H : Type) (enc : TypeId × Value → H) (w : World) (base : Nat) (spare : Nat → Bool) (held : Bool) (fuel : Nat) (cs : List Value) (x : DataW H × List MemPlace),
    DataW.trod enc P w base spare held fuel t cs = some x → Rows.uptoBulk x.1 ≤ 1048576 → ∃ d, L.cells w d cs

theorem add_off (b o n : Nat) : (⟨b, o, none⟩ : Addr).add n = ⟨b, o + n, none⟩ := by
  unfold Addr.add
  split
  · rename_i h; subst h; rfl
  · rfl

theorem rows_of {D : Type} {L : Lay D} {w : World} {a : Addr} {len : Nat} (h : ∀ i, i < len → ∃ d cs, L.cells w d cs ∧ ∀ j u, cs[j]? = some u → w.cell? ((a.add (i * L.sz)).add j) = some u) :
    ∀ k, k ≤ len → ∃ l : List D, l.length = k ∧ ∀ i d, l[i]? = some d → ∃ cs, L.cells w d cs ∧ ∀ j u, cs[j]? = some u → w.cell? ((a.add (i * L.sz)).add j) = some u
  | 0, _ => ⟨[], rfl, fun i d hi => by simp at hi⟩
  | k + 1, hk => by
    obtain ⟨l, hl, hall⟩ := rows_of h k (by omega)
    obtain ⟨d, cs, hc, hcell⟩ := h k (by omega)
    refine ⟨l ++ [d], by simp [hl], fun i x hi => ?_⟩
    by_cases hik : i < l.length
    · rw [List.getElem?_append_left hik] at hi
      exact hall i x hi
    · rw [List.getElem?_append_right (by omega)] at hi
      have e1 : i - l.length = 0 := by
        have := (List.getElem?_eq_some_iff.1 hi).1
        simp at this; omega
      rw [e1] at hi
      simp at hi
      subst hi
      obtain rfl : i = k := by omega
      exact ⟨cs, hc, hcell⟩

theorem Opens.slice {D : Type} {P : Program} {L : Lay D} {t e : TypeId} (ht : P.underlying t = some (.slice e)) (hC : P.cellsOf e = L.sz) (hs : 0 < L.sz) (h : Opens P L e) : Opens P (slL L) t := by
  intro H enc w base spare held fuel cs x hx hb
  rcases open_slice ht hx with ⟨rfl, rfl⟩ | ⟨a, len, cap, m, n, D', Pl, rfl, hbb, hl, hm, hmm, rfl, hi⟩
  · exact ⟨[], _, rfl, Sl.nil 0 (by unfold maxLen; omega) none⟩
  · have hm' : len ≤ m := by rw [hmm]; split <;> omega
    have hbA : Rows.uptoBulkAll ((List.range len).map D') ≤ 1048576 := by
      simp only [Rows.uptoBulk] at hb
      omega
    have each : ∀ i, i < len → ∃ d cs, L.cells w d cs ∧ ∀ j u, cs[j]? = some u → w.cell? ((a.add (i * L.sz)).add j) = some u := fun i hil => by
      obtain ⟨cs', hc, ht'⟩ := hi i (by omega)
      rw [hC] at hc
      obtain ⟨_, hcl, hat⟩ := World.cells?_some hc
      have hbi : Rows.uptoBulk (D' i) ≤ 1048576 := by
        have := bulk_part (d := D' i) (l := (List.range len).map D') (List.mem_map.2 ⟨i, List.mem_range.2 hil, rfl⟩)
        omega
      obtain ⟨d, hd⟩ := h H enc w base spare held n cs' _ ht' hbi
      refine ⟨d, cs', hd, fun j u hj => ?_⟩
      have hjl : j < L.sz := by have := (List.getElem?_eq_some_iff.1 hj).1; omega
      rw [hat j hjl, hj]
    by_cases h0 : len = 0
    · subst h0
      exact ⟨[], _, rfl, Sl.nil cap hm (some a)⟩
    · obtain ⟨b, o, spot⟩ := a
      have hspot : spot = none := by
        obtain ⟨d, cs', hd, hcell⟩ := each 0 (by omega)
        have hl0 := L.len hd
        have h1 := hcell 0 _ (List.getElem?_eq_getElem (by omega))
        simpa [Addr.add] using World.cell?_spot h1
      subst hspot
      obtain ⟨l, hll, hall⟩ := rows_of each len (Nat.le_refl _)
      subst hll
      refine ⟨l, _, rfl, _, cap, rfl, hl, hm, fun i d hid => ?_⟩
      obtain ⟨cs', hd, hcell⟩ := hall i d hid
      refine ⟨b, o, cs', rfl, hd, fun j u hj => ?_⟩
      have := hcell j u hj
      rw [add_off, add_off, Nat.add_assoc] at this
      exact this

theorem field_at {H : Type} {enc : TypeId × Value → H} {P : Program} {w : World} {base : Nat} {spare : Nat → Bool} {held : Bool} {t : TypeId} {fs : Array Field} {fuel : Nat} {cs : List Value} {x : DataW H × List MemPlace}
    (ht : P.underlying t = some (.struct fs)) (h : DataW.trod enc P w base spare held fuel t cs = some x) (hb : Rows.uptoBulk x.1 ≤ 1048576) :
    cs.length = P.cellsOf t ∧ ∀ {D : Type} {L : Lay D} (i : Nat) (f : Field) (k : Nat), fs[i]? = some f → P.cellsOf f.type = k → Opens P L f.type → ∃ d, L.cells w d ((cs.drop f.offset).take k) := by
  obtain ⟨xs, n, _, rfl, hl, hxl, hf⟩ := DataW.trod_struct ht h
  refine ⟨hl, fun i f k hi hk ho => ?_⟩
  have h1 := hf i f hi
  have hil : i < xs.length := by have := (Array.getElem?_eq_some_iff.1 hi).1; omega
  obtain ⟨y, hy⟩ : ∃ y, xs[i]? = some y := ⟨_, List.getElem?_eq_getElem hil⟩
  rw [hy, hk] at h1
  refine ho H enc w base spare held n _ y h1 ?_
  have := bulk_part (d := y.1) (l := xs.map (·.1)) (List.mem_map.2 ⟨y, List.mem_of_getElem? hy, rfl⟩)
  simp only [Rows.uptoBulk] at hb
  omega

theorem opens_int {P : Program} {t : TypeId} (ht : P.underlying t = some (.int .i64)) : Opens P intL t := by
  intro H enc w base spare held fuel cs x hx hb
  obtain ⟨n, rfl, rfl, hw⟩ := DataW.trod_int ht hx
  refine ⟨n, rfl, ?_⟩
  have e1 : IntKind.i64.min = -9223372036854775808 := rfl
  have e2 : IntKind.i64.max = 9223372036854775807 := rfl
  simp [Lit.wf, e1, e2] at hw
  exact hw
theorem opens_str {P : Program} {t : TypeId} (ht : P.underlying t = some .string) : Opens P strL t := by
  intro H enc w base spare held fuel cs x hx hb
  obtain ⟨s, rfl, rfl, hw⟩ := DataW.trod_string ht hx
  refine ⟨s, rfl, ?_⟩
  simp only [Rows.uptoBulk, Array.length_toList] at hb
  show s.data.size ≤ 1048576
  omega
def boolL : Lay Bool := flatL 1 (fun _ => True) (fun b => [.bool b]) (fun _ => rfl)
theorem opens_bool {P : Program} {t : TypeId} (ht : P.underlying t = some .bool) : Opens P boolL t := by
  intro H enc w base spare held fuel cs x hx hb
  obtain ⟨b, rfl, rfl⟩ := DataW.trod_bool ht hx
  exact ⟨b, rfl, trivial⟩
end Go.Proofs.Ythefofclbepkoaa

/- Plain: the program's structs, read as data, lie as the layouts say (this program's numbers of types). -/
namespace Go.Proofs.Ythefofclbepkoaa
open Go Go.RowKit Go.Deep Go.ChangeShapes Go.WideShapes

theorem oInt : Opens Try.prog intL 3 := opens_int Try.underlying3
theorem oStr : Opens Try.prog strL 9 := opens_str Try.underlying9
theorem oBool : Opens Try.prog boolL 4 := opens_bool Try.underlying4

theorem o_val : Opens Try.prog valL 24 := by
  intro H enc w base spare held fuel cs x hx hb
  obtain ⟨hl, hf⟩ := field_at Try.underlying24 hx hb
  rw [show Try.prog.cellsOf 24 = 3 from by kernel_rfl] at hl
  match cs, hl with
  | [c0, c1, c2], _ =>
    obtain ⟨a0, e0, h0⟩ := hf (L := intL) 0 _ 1 rfl (by kernel_rfl) oInt
    have e0 : [c0] = [.int .i64 a0] := e0
    injection e0 with e0 _
    subst e0
    obtain ⟨a1, e1, h1⟩ := hf (L := intL) 1 _ 1 rfl (by kernel_rfl) oInt
    have e1 : [c1] = [.int .i64 a1] := e1
    injection e1 with e1 _
    subst e1
    obtain ⟨a2, e2, h2⟩ := hf (L := strL) 2 _ 1 rfl (by kernel_rfl) oStr
    have e2 : [c2] = [.string a2] := e2
    injection e2 with e2 _
    subst e2
    exact ⟨⟨a0, a1, a2⟩, rfl, h0, h1, h2⟩
theorem o_prp : Opens Try.prog prpL 26 := by
  intro H enc w base spare held fuel cs x hx hb
  obtain ⟨hl, hf⟩ := field_at Try.underlying26 hx hb
  rw [show Try.prog.cellsOf 26 = 4 from by kernel_rfl] at hl
  match cs, hl with
  | [c0, c1, c2, c3], _ =>
    obtain ⟨a0, e0, h0⟩ := hf (L := strL) 0 _ 1 rfl (by kernel_rfl) oStr
    have e0 : [c0] = [.string a0] := e0
    injection e0 with e0 _
    subst e0
    obtain ⟨v, e1, h1⟩ := hf (L := valL) 1 _ 3 rfl (by kernel_rfl) o_val
    have e1 : [c1, c2, c3] = [.int .i64 v.ty, .int .i64 v.n, .string v.s] := e1
    injection e1 with e1 e2
    injection e2 with e2 e3
    injection e3 with e3 _
    subst e1; subst e2; subst e3
    exact ⟨⟨a0, v⟩, rfl, h0, h1⟩
theorem o_fld : Opens Try.prog fldL 101 := by
  intro H enc w base spare held fuel cs x hx hb
  obtain ⟨hl, hf⟩ := field_at Try.underlying101 hx hb
  rw [show Try.prog.cellsOf 101 = 4 from by kernel_rfl] at hl
  match cs, hl with
  | [c0, c1, c2, c3], _ =>
    obtain ⟨a0, e0, h0⟩ := hf (L := strL) 0 _ 1 rfl (by kernel_rfl) oStr
    have e0 : [c0] = [.string a0] := e0
    injection e0 with e0 _
    subst e0
    obtain ⟨a1, e1, h1⟩ := hf (L := intL) 1 _ 1 rfl (by kernel_rfl) oInt
    have e1 : [c1] = [.int .i64 a1] := e1
    injection e1 with e1 _
    subst e1
    obtain ⟨a2, e2, h2⟩ := hf (L := boolL) 2 _ 1 rfl (by kernel_rfl) oBool
    have e2 : [c2] = [.bool a2] := e2
    injection e2 with e2 _
    subst e2
    obtain ⟨a3, e3, h3⟩ := hf (L := boolL) 3 _ 1 rfl (by kernel_rfl) oBool
    have e3 : [c3] = [.bool a3] := e3
    injection e3 with e3 _
    subst e3
    exact ⟨⟨a0, a1, a2, a3⟩, rfl, h0, h1⟩
theorem o_bnd : Opens Try.prog bndL 107 := by
  intro H enc w base spare held fuel cs x hx hb
  obtain ⟨hl, hf⟩ := field_at Try.underlying107 hx hb
  rw [show Try.prog.cellsOf 107 = 5 from by kernel_rfl] at hl
  match cs, hl with
  | [c0, c1, c2, c3, c4], _ =>
    obtain ⟨a0, e0, h0⟩ := hf (L := strL) 0 _ 1 rfl (by kernel_rfl) oStr
    have e0 : [c0] = [.string a0] := e0
    injection e0 with e0 _
    subst e0
    obtain ⟨a1, e1, h1⟩ := hf (L := strL) 1 _ 1 rfl (by kernel_rfl) oStr
    have e1 : [c1] = [.string a1] := e1
    injection e1 with e1 _
    subst e1
    obtain ⟨a2, e2, h2⟩ := hf (L := strL) 2 _ 1 rfl (by kernel_rfl) oStr
    have e2 : [c2] = [.string a2] := e2
    injection e2 with e2 _
    subst e2
    obtain ⟨a3, e3, h3⟩ := hf (L := intL) 3 _ 1 rfl (by kernel_rfl) oInt
    have e3 : [c3] = [.int .i64 a3] := e3
    injection e3 with e3 _
    subst e3
    obtain ⟨a4, e4, h4⟩ := hf (L := intL) 4 _ 1 rfl (by kernel_rfl) oInt
    have e4 : [c4] = [.int .i64 a4] := e4
    injection e4 with e4 _
    subst e4
    exact ⟨⟨a0, a1, a2, a3, a4⟩, rfl, h0, h1, h2, h3, h4⟩
theorem o_tie : Opens Try.prog tieL 50 := by
  intro H enc w base spare held fuel cs x hx hb
  obtain ⟨hl, hf⟩ := field_at Try.underlying50 hx hb
  rw [show Try.prog.cellsOf 50 = 3 from by kernel_rfl] at hl
  match cs, hl with
  | [c0, c1, c2], _ =>
    obtain ⟨a0, e0, h0⟩ := hf (L := strL) 0 _ 1 rfl (by kernel_rfl) oStr
    have e0 : [c0] = [.string a0] := e0
    injection e0 with e0 _
    subst e0
    obtain ⟨a1, e1, h1⟩ := hf (L := intL) 1 _ 1 rfl (by kernel_rfl) oInt
    have e1 : [c1] = [.int .i64 a1] := e1
    injection e1 with e1 _
    subst e1
    obtain ⟨a2, e2, h2⟩ := hf (L := intL) 2 _ 1 rfl (by kernel_rfl) oInt
    have e2 : [c2] = [.int .i64 a2] := e2
    injection e2 with e2 _
    subst e2
    exact ⟨⟨a0, a1, a2⟩, rfl, h0, h1, h2⟩
theorem o_rec : Opens Try.prog (slL prpL) 28 := Opens.slice Try.underlying28 (by kernel_rfl) (by decide) o_prp
theorem o_strs : Opens Try.prog (slL strL) 103 := Opens.slice Try.underlying103 (by kernel_rfl) (by decide) oStr
theorem o_flds : Opens Try.prog (slL fldL) 102 := Opens.slice Try.underlying102 (by kernel_rfl) (by decide) o_fld
theorem o_bnds : Opens Try.prog (slL bndL) 66 := Opens.slice Try.underlying66 (by kernel_rfl) (by decide) o_bnd
theorem o_ties : Opens Try.prog (slL tieL) 41 := Opens.slice Try.underlying41 (by kernel_rfl) (by decide) o_tie
theorem o_nod : Opens Try.prog nodL 46 := by
  intro H enc w base spare held fuel cs x hx hb
  obtain ⟨hl, hf⟩ := field_at Try.underlying46 hx hb
  rw [show Try.prog.cellsOf 46 = 3 from by kernel_rfl] at hl
  match cs, hl with
  | [c0, c1, c2], _ =>
    obtain ⟨a0, e0, h0⟩ := hf (L := intL) 0 _ 1 rfl (by kernel_rfl) oInt
    have e0 : [c0] = [.int .i64 a0] := e0
    injection e0 with e0 _
    subst e0
    obtain ⟨a1, e1, h1⟩ := hf (L := strL) 1 _ 1 rfl (by kernel_rfl) oStr
    have e1 : [c1] = [.string a1] := e1
    injection e1 with e1 _
    subst e1
    obtain ⟨a2, v2, e2, h2⟩ := hf (L := slL prpL) 2 _ 1 rfl (by kernel_rfl) o_rec
    have e2 : [c2] = [v2] := e2
    injection e2 with e2 _
    subst e2
    exact ⟨⟨a0, a1, a2⟩, c2, rfl, h0, h1, h2⟩
theorem o_nods : Opens Try.prog (slL nodL) 40 := Opens.slice Try.underlying40 (by kernel_rfl) (by decide) o_nod
theorem o_knd : Opens Try.prog kndL 105 := by
  intro H enc w base spare held fuel cs x hx hb
  obtain ⟨hl, hf⟩ := field_at Try.underlying105 hx hb
  rw [show Try.prog.cellsOf 105 = 3 from by kernel_rfl] at hl
  match cs, hl with
  | [c0, c1, c2], _ =>
    obtain ⟨a0, e0, h0⟩ := hf (L := strL) 0 _ 1 rfl (by kernel_rfl) oStr
    have e0 : [c0] = [.string a0] := e0
    injection e0 with e0 _
    subst e0
    obtain ⟨a1, v1, e1, h1⟩ := hf (L := slL strL) 1 _ 1 rfl (by kernel_rfl) o_strs
    have e1 : [c1] = [v1] := e1
    injection e1 with e1 _
    subst e1
    obtain ⟨a2, v2, e2, h2⟩ := hf (L := slL fldL) 2 _ 1 rfl (by kernel_rfl) o_flds
    have e2 : [c2] = [v2] := e2
    injection e2 with e2 _
    subst e2
    exact ⟨⟨a0, a1, a2⟩, c1, c2, rfl, h0, h1, h2⟩
theorem o_knds : Opens Try.prog (slL kndL) 65 := Opens.slice Try.underlying65 (by kernel_rfl) (by decide) o_knd

/-! ### Arguments -/
/-- A one-cell argument. -/
theorem arg_one {D : Type} {L : Lay D} {t : TypeId} {H : Type} {enc : TypeId × Value → H} {w : World} {base : Nat} {spare : Nat → Bool} {held : Bool} {v : Value} {d : DataW H} {p : List MemPlace}
    (ho : Opens Try.prog L t) (h : DataW.Trod enc Try.prog w base spare held t v d p) (hb : Rows.uptoBulk d ≤ 1048576) : ∃ x, L.cells w x v.cells.toList := by
  obtain ⟨fuel, hf⟩ := h
  exact ho H enc w base spare held fuel _ _ hf hb
set_option maxRecDepth 100000 in
/-- A struct of two slices. -/
theorem arg_two {D E : Type} {L : Lay D} {M : Lay E} {t : TypeId} {f0 f1 : Field} {H : Type} {enc : TypeId × Value → H} {w : World} {base b0 : Nat} {r : Reach} {spare : Nat → Bool} {held : Bool} {v : Value} {d : DataW H} {p : List MemPlace}
    (hs : Try.prog.underlying t = some (.struct #[f0, f1])) (hone : oneCellFields Try.prog #[f0, f1] = true) (hC : Try.prog.cellsOf t = 2) (h0 : Opens Try.prog (slL L) f0.type) (h1 : Opens Try.prog (slL M) f1.type)
    (hv : Value.okWide Try.prog w r b0 t v) (h : DataW.Trod enc Try.prog w base spare held t v d p) (hb : Rows.uptoBulk d ≤ 1048576) : ∃ v0 v1 l m, v = .agg #[v0, v1] ∧ Sl L w v0 l ∧ Sl M w v1 m := by
  obtain ⟨v0, v1, y0, y1, n, rfl, rfl, rfl, g0, g1⟩ := Joins.open_agg2 hs hone hC hv h
  simp only [Rows.uptoBulk, Rows.uptoBulkAll] at hb
  obtain ⟨l, v0', e0, k0⟩ := h0 H enc w base spare held n _ _ g0 (by omega)
  obtain ⟨m, v1', e1, k1⟩ := h1 H enc w base spare held n _ _ g1 (by omega)
  injection e0 with e0 _
  injection e1 with e1 _
  subst e0; subst e1
  exact ⟨v0, v1, l, m, rfl, k0, k1⟩
set_option maxRecDepth 100000 in
theorem arg_graph {H : Type} {enc : TypeId × Value → H} {w : World} {base b0 : Nat} {r : Reach} {spare : Nat → Bool} {held : Bool} {v : Value} {d : DataW H} {p : List MemPlace}
    (hv : Value.okWide Try.prog w r b0 43 v) (h : DataW.Trod enc Try.prog w base spare held 43 v d p) (hb : Rows.uptoBulk d ≤ 1048576) : ∃ v0 v1 g, v = .agg #[v0, v1] ∧ GrfR w v0 v1 g := by
  obtain ⟨v0, v1, l, m, rfl, h0, h1⟩ := arg_two Try.underlying43 (by kernel_rfl) (by kernel_rfl) o_nods o_ties hv h hb
  exact ⟨v0, v1, ⟨l, m⟩, rfl, h0, h1⟩
set_option maxRecDepth 100000 in
theorem arg_schema {H : Type} {enc : TypeId × Value → H} {w : World} {base b0 : Nat} {r : Reach} {spare : Nat → Bool} {held : Bool} {v : Value} {d : DataW H} {p : List MemPlace}
    (hv : Value.okWide Try.prog w r b0 68 v) (h : DataW.Trod enc Try.prog w base spare held 68 v d p) (hb : Rows.uptoBulk d ≤ 1048576) : ∃ v0 v1 g, v = .agg #[v0, v1] ∧ ScmR w v0 v1 g := by
  obtain ⟨v0, v1, l, m, rfl, h0, h1⟩ := arg_two Try.underlying68 (by kernel_rfl) (by kernel_rfl) o_knds o_bnds hv h hb
  exact ⟨v0, v1, ⟨l, m⟩, rfl, h0, h1⟩
end Go.Proofs.Ythefofclbepkoaa

/- Plain: arguments that are one cell: texts, numbers, bools, slices. -/
namespace Go.Proofs.Ythefofclbepkoaa
open Go Go.RowKit Go.Deep Go.ChangeShapes Go.WideShapes

set_option maxRecDepth 100000 in
theorem arg_str {H : Type} {enc : TypeId × Value → H} {w : World} {base b0 : Nat} {r : Reach} {spare : Nat → Bool} {held : Bool} {v : Value} {d : DataW H} {p : List MemPlace}
    (hv : Value.okWide Try.prog w r b0 9 v) (h : DataW.Trod enc Try.prog w base spare held 9 v d p) (hb : Rows.uptoBulk d ≤ 1048576) : ∃ s, v = .string s ∧ Sm s := by
  obtain ⟨s, rfl, rfl, _, _⟩ := ChangeMaps.open_string Try.underlying9 hv h
  refine ⟨s, rfl, ?_⟩
  have hb' : s.data.toList.length + 1 ≤ 1048576 := hb
  clear hb
  unfold Sm
  have : s.data.toList.length = s.size := Array.length_toList
  omega
set_option maxRecDepth 100000 in
theorem arg_int {H : Type} {enc : TypeId × Value → H} {w : World} {base b0 : Nat} {r : Reach} {spare : Nat → Bool} {held : Bool} {v : Value} {d : DataW H} {p : List MemPlace}
    (hv : Value.okWide Try.prog w r b0 3 v) (h : DataW.Trod enc Try.prog w base spare held 3 v d p) : ∃ n, v = .int .i64 n ∧ I64 n := by
  obtain ⟨n, rfl, _, _, hn⟩ := open_int Try.underlying3 hv h
  refine ⟨n, rfl, ?_⟩
  have := hn
  simp only [Lit.wf, Bool.and_eq_true, decide_eq_true_eq] at this
  exact this
set_option maxRecDepth 100000 in
theorem arg_bool {H : Type} {enc : TypeId × Value → H} {w : World} {base b0 : Nat} {r : Reach} {spare : Nat → Bool} {held : Bool} {v : Value} {d : DataW H} {p : List MemPlace}
    (hv : Value.okWide Try.prog w r b0 4 v) (h : DataW.Trod enc Try.prog w base spare held 4 v d p) : ∃ b, v = .bool b := by
  obtain ⟨b, rfl, _, _⟩ := open_bool Try.underlying4 hv h
  exact ⟨b, rfl⟩
set_option maxRecDepth 100000 in
theorem arg_sl {D : Type} {L : Lay D} {t e : TypeId} {H : Type} {enc : TypeId × Value → H} {w : World} {base b0 : Nat} {r : Reach} {spare : Nat → Bool} {held : Bool} {v : Value} {d : DataW H} {p : List MemPlace}
    (ht : Try.prog.underlying t = some (.slice e)) (ho : Opens Try.prog (slL L) t) (hv : Value.okWide Try.prog w r b0 t v) (h : DataW.Trod enc Try.prog w base spare held t v d p) (hb : Rows.uptoBulk d ≤ 1048576) : ∃ l, Sl L w v l := by
  obtain ⟨l, v', e1, h1⟩ := arg_one ho h hb
  obtain ⟨a, n, c, rfl⟩ := okWide_slice ht hv
  simp only [Value.cells, List.cons.injEq, and_true] at e1
  subst e1
  exact ⟨l, h1⟩
end Go.Proofs.Ythefofclbepkoaa
