/- Parts: CkE, CkR. -/
import Derived.Test.YtpfpgmfdcafpnaaGreatDoorMg22
import Derived.Test.YtpfpgmfdcafpnaaGreatDoorMg15
/- Contract: kinref1.end: whether an end of a tie is one. No condition. -/
namespace Go.Proofs.YtpfpgmfdcafpnaaGreatDoor
open Go Go.RowKit



set_option maxRecDepth 100000 in
set_option maxHeartbeats 8000000 in
theorem rend_any (s : Scm) (g : Grf) (id : Int) (asked : ByteArray) (vk vb vn vt : Value) (w : World) (hs : ScmR w vk vb s) (hg : GrfR w vn vt g) (hr : Right s.kinds) (hz0 : grfE g = 0) :
    Calls Tryz.prog 23 #[.agg #[vk, vb], .agg #[vn, vt], .int .i64 id, .string asked] w fun e w' => e = .returned (.bool (endB s g id asked)) ∧ Below w.heap.size w w' := by
  obtain ⟨A1, c1, rfl, _, _⟩ := hs.1.form
  obtain ⟨A2, c2, rfl, _, _⟩ := hs.2.form
  obtain ⟨A3, c3, rfl, _, _⟩ := hg.1.form
  obtain ⟨A4, c4, rfl, _, _⟩ := hg.2.form
  obtain ⟨W0, hW0⟩ : ∃ W0, W0 = (w.alloc (.cells #[.slice A1 s.kinds.length c1, .slice A2 s.bonds.length c2] 25)).alloc (.cells #[.slice A3 g.nodes.length c3, .slice A4 g.ties.length c4] 29) := ⟨_, rfl⟩
  have hb0 : Below w.heap.size w W0 := by rw [hW0]; exact ((Below.refl _ _).alloc (Nat.le_refl _) _).alloc (by simp) _
  have g0 : W0.heap[w.heap.size]? = some (.cells #[.slice A1 s.kinds.length c1, .slice A2 s.bonds.length c2] 25 (0, 0)) := by
    rw [hW0, Below.heap_alloc _ _ _ (by simp)]; exact heap_alloc_new _ _
  have g1 : W0.heap[w.heap.size + 1]? = some (.cells #[.slice A3 g.nodes.length c3, .slice A4 g.ties.length c4] 29 (0, 0)) := by
    have := heap_alloc_new (w.alloc (.cells #[.slice A1 s.kinds.length c1, .slice A2 s.bonds.length c2] 25)) (.cells #[.slice A3 g.nodes.length c3, .slice A4 g.ties.length c4] 29); rw [hW0]; simpa using this
  have hW0' := hW0.symm
  have HG0 := Lib.hid g0
  have HG1 := Lib.hid g1
  have x0 := block_cell g0 0
  have x1 := block_cell g0 1
  have y0 := block_cell g1 0
  have y1 := block_cell g1 1
  have hw0 := hb0.size
  have HS := Lib.hid (hs.below hb0)
  have HG := Lib.hid (hg.below hb0)
  have hx := rgfind_any g _ _ id W0 (hg.below hb0)
  have HNEG : Hid (rfI g.nodes id < 0 → endB s g id asked = false) := end_neg hz0
  have HAT : Hid (∀ (i : Nat) n, rfI g.nodes id = i → g.nodes[i]? = some n → endB s g id asked = (decide (0 ≤ kFind s.kinds n.kind) && isKinB s.kinds n.kind asked)) := fun i n h1 h2 => end_at hz0 h1 h2
  have HGE : Hid (0 ≤ rfI g.nodes id → ∃ (i : Nat) (n : Nod), rfI g.nodes id = i ∧ g.nodes[i]? = some n) := fun h => by
    obtain ⟨i, n, h1, h2, _⟩ := idxI_nonneg h
    exact ⟨i, n, h1, h2⟩
  generalize rfI g.nodes id = ri at *
  generalize endB s g id asked = eb at *
  clear hs hg g0 g1 hW0 hz0
  have X0 := Lib.hid x0
  have Y0 := Lib.hid y0
  go_enter Tryz.func23, Tryz.ntmps23
  go_wp2_with fail
  clear hW0'
  refine hx.mono ?_
  clear hx x0 x1 y0 y1
  rintro e w2 ⟨rfl, hb2⟩
  have x0 := cell_below hb2 X0.out
  have y0 := cell_below hb2 Y0.out
  have hB2 := hb0.trans (hb2.mono hw0)
  by_cases hri : ri < 0
  · have HE := Lib.hid (HNEG.out hri)
    have hrd : decide ((0 : Int) ≤ ri) = false := decide_eq_false (by omega)
    clear hri HNEG HAT HGE
    go_wp2_with fail
    go_quiet (fail)
    go_wp2_with fail
    go_ret
    exact ⟨by rw [HE.out]; rfl, below_drewN hB2 _⟩
  obtain ⟨i, n, hi, hn⟩ := HGE.out (by omega)
  have HE := Lib.hid (HAT.out i n hi hn)
  subst hi
  have hil := (List.getElem?_eq_some_iff.1 hn).1
  have hil' : (i : Int) < (g.nodes.length : Int) := by omega
  have hi0 : (0 : Int) ≤ (i : Int) := by omega
  have hid0 : decide ((0 : Int) ≤ (i : Int)) = true := decide_eq_true hi0
  obtain ⟨b, o, rfl, u, _, _, _, _, z1, _⟩ := nod_at (HG.out.below hb2).1 hn
  have hbd : Below w2.heap.size w2 w2.drew := (Below.refl _ _).drew
  have HK : Hid (∀ W, Below w2.heap.size w2 W → Calls Tryz.prog 10 #[.slice A1 s.kinds.length c1, .string n.kind] W fun e w' => e = .returned (.int .i64 (kFind s.kinds n.kind)) ∧ Below W.heap.size W w') := fun W h => (rkind_any s.kinds n.kind _ W (HS.out.below (hb2.trans (h.mono hb2.size))).1).mono fun e w' hh => ⟨hh.1, by rw [← hh.2]; exact Below.refl _ _⟩
  have HI : Hid (0 ≤ kFind s.kinds n.kind → ∀ W, Below w2.heap.size w2 W → Calls Tryz.prog 20 #[.slice A1 s.kinds.length c1, .string n.kind, .string asked] W fun e w' => e = .returned (.bool (isKinB s.kinds n.kind asked)) ∧ Below W.heap.size W w') := fun hz W h =>
    ris_any s.kinds n.kind asked _ W (HS.out.below (hb2.trans (h.mono hb2.size))).1 hr.wf hz hr.len
  have hkeep := And.intro (cell_below hbd x0) (And.intro (cell_below hbd y0) (cell_below hbd z1))
  generalize kFind s.kinds n.kind = z at *
  generalize isKinB s.kinds n.kind asked = ik at *
  have HK0 := HK.out w2.drew hbd
  clear hn hri HNEG HAT HGE hil hr
  by_cases hz : z < 0
  · have HE2 : Hid (eb = false) := by unfold Hid; rw [HE.out, decide_eq_false (by omega)]; rfl
    have hz1 : decide ((0 : Int) ≤ z) = false := decide_eq_false (by omega)
    clear HI HK0 hkeep
    go_wp2_with fail
    refine wp_mid_g 11 _ rfl rfl (by kernel_rfl) ?_
    simp only [List.take_succ_cons, List.take_zero, List.drop_succ_cons, List.drop_zero]
    repeat (go_big_quiet_step (fail))
    refine wpQuiet_nil ?_
    refine ⟨by simp [Region.wanted, yielded, go_sem], ?_⟩
    intro _ hw'
    obtain ⟨nq, hw''⟩ := hw'
    subst hw''
    intro K hK
    have hk1 := HK.out (w2.drewN nq) (below_drewN (Below.refl _ _) nq)
    go_wp2_with fail
    refine hk1.mono ?_
    clear hk1
    rintro e w3 ⟨rfl, hb3⟩
    have hb23 := (below_drewN (Below.refl w2.heap.size w2) nq).trans hb3
    refine hK _ _ ?_
    repeat (go_big_quiet_step (fail))
    refine wpQuiet_nil ?_
    intro _ hw'
    obtain ⟨nq2, hw''⟩ := hw'
    subst hw''
    clear hK
    have hbX := below_drewN hb23 nq2
    generalize w3.drewN nq2 = W3 at *
    go_wp2_with fail
    go_ret
    exact ⟨by rw [HE2.out]; rfl, hB2.trans (hbX.mono hB2.size)⟩
  · have HE2 : Hid (eb = ik) := by unfold Hid; rw [HE.out, decide_eq_true (by omega)]; rfl
    have hz1 : decide ((0 : Int) ≤ z) = true := decide_eq_true (by omega)
    have hz2 : (0 : Int) ≤ z := by omega
    have HI := Lib.hid (HI.out hz2)
    clear hz
    go_wp2_with fail
    go_region_held3 (fun w' => w'.cell? ⟨w.heap.size, 0, none⟩ = some (.slice A1 s.kinds.length c1) ∧ w'.cell? ⟨w.heap.size + 1, 0, none⟩ = some (.slice (some ⟨b, o, none⟩) g.nodes.length c3) ∧ w'.cell? ⟨b, o + i * 3 + 1, none⟩ = some (.string n.kind))
      (first
        | exact hkeep
        | go_keep)
      (first
        | (go_at_call 10
           refine HK0.mono ?_
           rintro e w3 ⟨rfl, hb3⟩
           have hb23 := hbd.trans (hb3.mono hbd.size)
           have hkeep := And.intro (cell_below hb23 x0) (And.intro (cell_below hb23 y0) (cell_below hb23 z1))
           have HI0 := HI.out w3 hb23)
        | (go_at_call 20
           refine HI0.mono ?_
           rintro e w4 ⟨rfl, hb4⟩
           have hb24 := hb23.trans (hb4.mono hb23.size)
           have hkeep := And.intro (cell_below hb24 x0) (And.intro (cell_below hb24 y0) (cell_below hb24 z1))))
    all_goals
      go_wp2_with fail
      go_ret
    all_goals exact ⟨by rw [HE2.out]; rfl, hB2.trans (hb24.mono hB2.size)⟩
end Go.Proofs.YtpfpgmfdcafpnaaGreatDoor

/- Plain: all faults that are told are data that may be held. No condition. -/
namespace Go.Proofs.YtpfpgmfdcafpnaaGreatDoor
open Go Go.RowKit

theorem i64_few {z : Int} (h0 : 0 ≤ z) (h1 : z ≤ 8) : I64 z := by unfold I64; omega
theorem kfl_ok {w : World} {vk : Value} {s : Scm} (h : Sl kndL w vk s.kinds) (nm : ByteArray) : ∀ f ∈ kfl s nm, f.ok := by
  intro f hf
  unfold kfl at hf
  split at hf
  · simp at hf
  · cases hq : fieldsOf s.kinds nm with
    | none => rw [hq] at hf; simp at hf
    | some fs =>
      rw [hq] at hf
      obtain ⟨nm2, hs, hx⟩ := (fieldsOf_mem hq f).1 hf
      obtain ⟨i, k, _, hk, hfl⟩ := kin_known nm2 hs
      rw [hfl] at hx
      obtain ⟨A, c, rfl, _, _⟩ := h.form
      obtain ⟨_, _, _, _, _, _, _, hsf, _⟩ := knd_at h hk
      obtain ⟨A2, c2, rfl, _, _⟩ := hsf.form
      obtain ⟨j, hj⟩ := List.mem_iff_getElem?.1 hx
      obtain ⟨_, _, _, hok, _⟩ := fld_at hsf hj
      exact hok
theorem bnds_ok {w : World} {vb : Value} {l : List Bnd} (h : Sl bndL w vb l) : ∀ b ∈ l, Sm b.name := by
  intro b hb
  obtain ⟨A, c, rfl, _, _⟩ := h.form
  obtain ⟨j, hj⟩ := List.mem_iff_getElem?.1 hb
  obtain ⟨_, _, _, hok, _⟩ := bnd_at h hj
  exact hok.1
theorem rNode_ok {w : World} {vk vb u : Value} {s : Scm} {g : Grf} {p : List Nod} {n : Nod} (hs : ScmR w vk vb s) (hid : I64 n.id) (hkd : Sm n.kind) (hpr : Sl prpL w u n.props) : ∀ x ∈ rNodeF s g p n, x.ok := by
  intro x hx
  have hf := kfl_ok hs.1 n.kind
  have hb := bnds_ok hs.2
  unfold rNodeF at hx
  rcases List.mem_append.1 hx with hx | hx
  · unfold rAloneF at hx
    split at hx
    · simp at hx; subst hx; exact ⟨i64_few (by simp) (by simp), hid, hkd⟩
    · rcases List.mem_append.1 hx with hx | hx
      · obtain ⟨q, hq, rfl⟩ := List.mem_map.1 hx
        obtain ⟨A, c, rfl, _, _⟩ := hpr.form
        obtain ⟨j, hj⟩ := List.mem_iff_getElem?.1 (List.mem_filter.1 hq).1
        obtain ⟨_, _, _, hok, _⟩ := prp_at hpr hj
        exact ⟨i64_few (by simp) (by simp), hid, hok.1⟩
      · obtain ⟨f, hq, rfl⟩ := List.mem_map.1 hx
        exact ⟨i64_few (by simp) (by simp), hid, (hf f (List.mem_filter.1 hq).1).1⟩
  · split at hx
    · simp at hx
    · rcases List.mem_append.1 hx with hx | hx
      · unfold rKeysF at hx
        obtain ⟨f, hq, rfl⟩ := List.mem_map.1 hx
        exact ⟨i64_few (by simp) (by simp), hid, (hf f (List.mem_filter.1 hq).1).1⟩
      · obtain ⟨b, hbm, hx⟩ := List.mem_flatMap.1 hx
        unfold bondF at hx
        split at hx
        · rcases List.mem_append.1 hx with hx | hx
          · split at hx
            · simp at hx; subst hx; exact ⟨i64_few (by simp) (by simp), hid, hb b hbm⟩
            · simp at hx
          · split at hx
            · simp at hx; subst hx; exact ⟨i64_few (by simp) (by simp), hid, hb b hbm⟩
            · simp at hx
        · simp at hx
theorem nodes_ok {w : World} {vk vb vn vt : Value} {s : Scm} {g : Grf} (hs : ScmR w vk vb s) (hg : GrfR w vn vt g) (hr : Right s.kinds) (hz : grfE g = 0) : ∀ (k : Nat), ∀ x ∈ (nodesF s g (g.nodes.take k)).1, x.ok
  | 0 => by simp [nodesF]
  | k + 1 => by
    have ih := nodes_ok hs hg hr hz k
    cases hd : g.nodes[k]? with
    | none =>
      have hl : g.nodes.length ≤ k := by rw [List.getElem?_eq_none_iff] at hd; exact hd
      rw [List.take_of_length_le hl] at ih
      rw [List.take_of_length_le (by omega)]
      exact ih
    | some n =>
      rw [nodes_step hr (nodsOk hz) hd]
      intro x hx
      rcases List.mem_append.1 hx with hx | hx
      · exact ih x hx
      · obtain ⟨A, c, rfl, _, _⟩ := hg.1.form
        obtain ⟨_, _, _, _, hid, hkd, hpr, _⟩ := nod_at hg.1 hd
        exact rNode_ok hs hid hkd hpr x hx
theorem ofF_ok {w : World} {vk vb vn vt : Value} {s : Scm} {g : Grf} (hs : ScmR w vk vb s) (hg : GrfR w vn vt g) (hr : Right s.kinds) (hz : grfE g = 0) : ∀ x ∈ ofF s g, x.ok := by
  intro x hx
  unfold ofF at hx
  rcases List.mem_append.1 hx with hx | hx
  · have := nodes_ok hs hg hr hz g.nodes.length
    rw [List.take_length] at this
    exact this x hx
  · obtain ⟨t, ht, hx⟩ := List.mem_flatMap.1 hx
    obtain ⟨A, c, rfl, _, _⟩ := hg.2.form
    obtain ⟨j, hj⟩ := List.mem_iff_getElem?.1 ht
    obtain ⟨_, _, _, hok, _⟩ := tie_at hg.2 hj
    unfold tieF at hx
    split at hx
    · split at hx
      · simp at hx; subst hx; exact ⟨i64_few (by simp) (by simp), hok.2.1, hok.1⟩
      · split at hx
        · simp at hx
        · simp at hx; subst hx; exact ⟨i64_few (by simp) (by simp), hok.2.1, hok.1⟩
    · simp at hx; subst hx; exact ⟨i64_few (by simp) (by simp), hok.2.1, hok.1⟩
end Go.Proofs.YtpfpgmfdcafpnaaGreatDoor
