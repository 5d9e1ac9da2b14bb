/- Parts: GtP, CkG, CkE, CkR, CkB. -/
import Derived.Test.YtngbbefpphinjaaGreatDoorMg28
import Derived.Test.YtngbbefpphinjaaGreatDoorMg27
import Derived.Test.YtngbbefpphinjaaGreatDoorMg13
import Derived.Test.YtngbbefpphinjaaGreatDoorMg26
import Derived.Test.YtngbbefpphinjaaGreatDoorMg07
/- Plain: where a node of a number is; the next number. No condition. -/
namespace Go.Proofs.YtngbbefpphinjaaGreatDoor
open Go Go.RowKit
theorem rf_neg {g : Grf} {id : Int} (h : grfE g = 0) (hn : rfI g.nodes id < 0) : nodeE g id = 5 := by
 have hch := (grf_ok h).2.2.1
 unfold nodeE
 rw [if_pos h, ids_has hch]
 have hno : id ∉ idsN g.nodes := fun hm => by
  obtain ⟨n, hn1, hn2⟩ := List.mem_map.1 hm
  obtain ⟨i, hi⟩ := List.mem_iff_getElem?.1 hn1
  unfold rfI idxI at hn
  split at hn
  ·omega
  rename_i hf
  rw [List.findIdx?_eq_none_iff] at hf
  have := hf n hn1
  simp [hn2] at this
 simp [hno]
theorem rf_pos {g : Grf} {id : Int} (h : grfE g = 0) (hn : 0 <= rfI g.nodes id) : ∃ (i : Nat) (n : Nod), rfI g.nodes id = i /\ g.nodes[i]? = some n /\ nodeE g id = 0 /\ nodeR g id = n := by
 have hch := (grf_ok h).2.2.1
 obtain ⟨i, n, h1, h2, h3, _⟩ := idxI_nonneg (p := fun n : Nod => decide (n.id = id)) (l := g.nodes) hn
 have h3 : n.id = id := of_decide_eq_true h3
 have hm : id ∈ idsN g.nodes := List.mem_map.2 ⟨n, List.mem_of_getElem? h2, h3⟩
 have hf : fhas g.nodes id = true := by rw [ids_has hch]; simpa using hm
 have hE : nodeE g id = 0 := by unfold nodeE; rw [if_pos h, hf]; rfl
 refine ⟨i, n, h1, h2, hE, ?_⟩
 unfold nodeR
 rw [if_pos hE]
 obtain ⟨m, hm2⟩ := fhas_some' hf
 have hmid : m.id = id := by
  unfold fhas eqAt at hf
  rw [hm2] at hf
  have : nodC id m = 0 := by simpa using hf
  unfold nodC at this
  exact cmpI_zero.1 this
 rw [hm2]
 show m = n
 rcases Nat.lt_trichotomy i (fpos g.nodes id) with hlt | heq | hgt
 ·have := chain_lt2 hch hlt h2 hm2; omega
 ·rw [<- heq, h2] at hm2; injection hm2 with e; exact e.symm
 have := chain_lt2 hch hgt hm2 h2; omega
def NodsOk (l : List Nod) : Prop := ∀ n ∈ l, nodE n = 0 /\ chain prpLt n.props = true
theorem nodsOk {g : Grf} (h : grfE g = 0) : NodsOk g.nodes := fun n hn => by
 have h1 := ((grf_ok h).2.2.2 n hn).2
 refine ⟨h1, ?_⟩
 unfold nodE at h1
 split at h1
 ·simp at h1
 split at h1
 ·exact (rec_ok h1).2.2
 rename_i h6; exact absurd h1 h6
theorem keys_of {s : Scm} {g : Grf} (hr : Right s.kinds) : ∀ (k : Nat) , NodsOk g.nodes -> KeysOf s (g.nodes.take k) (nodesF s g (g.nodes.take k)).2
 | 0, _ => fun k => by simp [nodesF]
 | k + 1, h => by
  cases hd : g.nodes[k]? with
  | none =>
   have hl : g.nodes.length <= k := by rw [List.getElem?_eq_none_iff] at hd; exact hd
   have := keys_of hr k h
   rw [List.take_of_length_le hl] at this
   rw [List.take_of_length_le (by omega)]
   exact this
  | some n =>
   obtain ⟨h1, h2⟩ := h n (List.mem_of_getElem? hd)
   rw [take_snocF hd, nodesF_snoc]
   exact (rNode_eq hr h1 h2 (keys_of hr k h)).2
theorem nodes_step {s : Scm} {g : Grf} (hr : Right s.kinds) (h : NodsOk g.nodes) {k : Nat} {n : Nod} (hd : g.nodes[k]? = some n) :
 (nodesF s g (g.nodes.take (k + 1))).1 = (nodesF s g (g.nodes.take k)).1 ++ rNodeF s g (g.nodes.take k) n := by
 obtain ⟨h1, h2⟩ := h n (List.mem_of_getElem? hd)
 rw [take_snocF hd, nodesF_snoc, <- (rNode_eq hr h1 h2 (keys_of hr k h)).1]
theorem end_neg {s : Scm} {g : Grf} {id : Int} {asked : ByteArray} (h : grfE g = 0) (hn : rfI g.nodes id < 0) : endB s g id asked = false := by
 have h1 := rf_neg h hn
 unfold nodeE at h1
 rw [if_pos h] at h1
 unfold endB
 split
 ·by_cases hf : fhas g.nodes id = true
  ·rw [hf] at h1; simp at h1
  simp [hf]
 rfl
theorem end_at {s : Scm} {g : Grf} {id : Int} {asked : ByteArray} (h : grfE g = 0) {i : Nat} {n : Nod} (hi : rfI g.nodes id = i) (hn : g.nodes[i]? = some n) :
 endB s g id asked = (decide (0 <= kFind s.kinds n.kind) && isKinB s.kinds n.kind asked) := by
 obtain ⟨j, m, e1, e2, e3, e4⟩ := rf_pos h (by omega : 0 <= rfI g.nodes id)
 have : j = i := by omega
 subst this
 rw [hn] at e2
 injection e2 with e2; subst e2
 have hf : fhas g.nodes id = true := by
  unfold nodeE at e3
  rw [if_pos h] at e3
  by_cases hf : fhas g.nodes id = true
  ·exact hf
  simp [hf] at e3
 obtain ⟨m, hm⟩ := fhas_some' hf
 unfold nodeR at e4
 rw [if_pos e3, hm] at e4
 have e4 : m = n := e4
 unfold endB
 rw [hm]
 subst e4
 simp [hf]
set_option maxRecDepth 100000 in
set_option maxHeartbeats 8000000 in
theorem rend_any (s : Scm) (g : Grf) (id : Int) (asked : ByteArray) (vk vb vn vt : Value) (w : World) (hs : ScmR w vk vb s) (hg : GrfR w vn vt g) (hr : Right s.kinds) (hz0 : grfE g = 0) :
 Calls Tryz.prog 65 #[.agg #[vk, vb], .agg #[vn, vt], .int .i64 id, .string asked] w fun e w' => e = .returned (.bool (endB s g id asked)) /\ Below w.heap.size w w' := by
 obtain ⟨A1, c1, rfl, _, _⟩ := hs.1.form
 obtain ⟨A2, c2, rfl, _, _⟩ := hs.2.form
 obtain ⟨A3, c3, rfl, _, _⟩ := hg.1.form
 obtain ⟨A4, c4, rfl, _, _⟩ := hg.2.form
 obtain ⟨W0, hW0⟩ : ∃ W0, W0 = (w.alloc (.cells #[.slice A1 s.kinds.length c1, .slice A2 s.bonds.length c2] 61)).alloc (.cells #[.slice A3 g.nodes.length c3, .slice A4 g.ties.length c4] 25) := ⟨_, rfl⟩
 have hb0 : Below w.heap.size w W0 := by rw [hW0]; exact ((Below.refl _ _).alloc (Nat.le_refl _) _).alloc (by simp) _
 have g0 : W0.heap[w.heap.size]? = some (.cells #[.slice A1 s.kinds.length c1, .slice A2 s.bonds.length c2] 61 (0, 0)) := by
  rw [hW0, Below.heap_alloc _ _ _ (by simp)]; exact heap_alloc_new _ _
 have g1 : W0.heap[w.heap.size + 1]? = some (.cells #[.slice A3 g.nodes.length c3, .slice A4 g.ties.length c4] 25 (0, 0)) := by
  have := heap_alloc_new (w.alloc (.cells #[.slice A1 s.kinds.length c1, .slice A2 s.bonds.length c2] 61)) (.cells #[.slice A3 g.nodes.length c3, .slice A4 g.ties.length c4] 25); rw [hW0]; simpa using this
 have hW0' := hW0.symm
 have HG0 := Lib.hid g0
 have HG1 := Lib.hid g1
 have x0 := block_cell g0 0
 have x1 := block_cell g0 1
 have y0 := block_cell g1 0
 have y1 := block_cell g1 1
 have hw0 := hb0.size
 have HS := Lib.hid (hs.below hb0)
 have HG := Lib.hid (hg.below hb0)
 have hx := rgfind_any g _ _ id W0 (hg.below hb0)
 have HNEG : Hid (rfI g.nodes id < 0 -> endB s g id asked = false) := end_neg hz0
 have HAT : Hid (∀ (i : Nat) n, rfI g.nodes id = i -> g.nodes[i]? = some n -> endB s g id asked = (decide (0 <= kFind s.kinds n.kind) && isKinB s.kinds n.kind asked)) := fun i n h1 h2 => end_at hz0 h1 h2
 have HGE : Hid (0 <= rfI g.nodes id -> ∃ (i : Nat) (n : Nod), rfI g.nodes id = i /\ g.nodes[i]? = some n) := fun h => by
  obtain ⟨i, n, h1, h2, _⟩ := idxI_nonneg h
  exact ⟨i, n, h1, h2⟩
 generalize rfI g.nodes id = ri at *
 generalize endB s g id asked = eb at *
 clear hs hg g0 g1 hW0 hz0
 have X0 := Lib.hid x0
 have Y0 := Lib.hid y0
 go_enter Tryz.func65, Tryz.ntmps65
 go_wp2_with fail
 clear hW0'
 refine hx.mono ?_
 clear hx x0 x1 y0 y1
 rintro e w2 ⟨rfl, hb2⟩
 have x0 := cell_below hb2 X0.out
 have y0 := cell_below hb2 Y0.out
 have hB2 := hb0.trans (hb2.mono hw0)
 by_cases hri : ri < 0
 ·have HE := Lib.hid (HNEG.out hri)
  have hrd : decide ((0 : Int) <= ri) = false := decide_eq_false (by omega)
  clear hri HNEG HAT HGE
  go_wp2_with fail
  go_quiet (fail)
  go_wp2_with fail
  go_ret
  exact ⟨by rw [HE.out]; rfl, below_drewN hB2 _⟩
 obtain ⟨i, n, hi, hn⟩ := HGE.out (by omega)
 have HE := Lib.hid (HAT.out i n hi hn)
 subst hi
 have hil := (List.getElem?_eq_some_iff.1 hn).1
 have hil' : (i : Int) < (g.nodes.length : Int) := by omega
 have hi0 : (0 : Int) <= (i : Int) := by omega
 have hid0 : decide ((0 : Int) <= (i : Int)) = true := decide_eq_true hi0
 obtain ⟨b, o, rfl, u, _, _, _, _, z1, _⟩ := nod_at (HG.out.below hb2).1 hn
 have hbd : Below w2.heap.size w2 w2.drew := (Below.refl _ _).drew
 have HK : Hid (∀ W, Below w2.heap.size w2 W -> Calls Tryz.prog 59 #[.slice A1 s.kinds.length c1, .string n.kind] W fun e w' => e = .returned (.int .i64 (kFind s.kinds n.kind)) /\ Below W.heap.size W w') := fun W h => (rkind_any s.kinds n.kind _ W (HS.out.below (hb2.trans (h.mono hb2.size))).1).mono fun e w' hh => ⟨hh.1, by rw [<- hh.2]; exact Below.refl _ _⟩
 have HI : Hid (0 <= kFind s.kinds n.kind -> ∀ W, Below w2.heap.size w2 W -> Calls Tryz.prog 62 #[.slice A1 s.kinds.length c1, .string n.kind, .string asked] W fun e w' => e = .returned (.bool (isKinB s.kinds n.kind asked)) /\ Below W.heap.size W w') := fun hz W h =>
  ris_any s.kinds n.kind asked _ W (HS.out.below (hb2.trans (h.mono hb2.size))).1 hr.wf hz hr.len
 have hkeep := And.intro (cell_below hbd x0) (And.intro (cell_below hbd y0) (cell_below hbd z1))
 generalize kFind s.kinds n.kind = z at *
 generalize isKinB s.kinds n.kind asked = ik at *
 have HK0 := HK.out w2.drew hbd
 clear hn hri HNEG HAT HGE hil hr
 by_cases hz : z < 0
 ·have HE2 : Hid (eb = false) := by unfold Hid; rw [HE.out, decide_eq_false (by omega)]; rfl
  have hz1 : decide ((0 : Int) <= z) = false := decide_eq_false (by omega)
  clear HI HK0 hkeep
  go_wp2_with fail
  refine wp_mid_g 11 _ rfl rfl (by kernel_rfl) ?_
  simp only [List.take_succ_cons, List.take_zero, List.drop_succ_cons, List.drop_zero]
  repeat (go_big_quiet_step (fail))
  refine wpQuiet_nil ?_
  refine ⟨by simp [Region.wanted, yielded, go_sem], ?_⟩
  intro _ hw'
  obtain ⟨nq, hw''⟩ := hw'
  subst hw''
  intro K hK
  have hk1 := HK.out (w2.drewN nq) (below_drewN (Below.refl _ _) nq)
  go_wp2_with fail
  refine hk1.mono ?_
  clear hk1
  rintro e w3 ⟨rfl, hb3⟩
  have hb23 := (below_drewN (Below.refl w2.heap.size w2) nq).trans hb3
  refine hK _ _ ?_
  repeat (go_big_quiet_step (fail))
  refine wpQuiet_nil ?_
  intro _ hw'
  obtain ⟨nq2, hw''⟩ := hw'
  subst hw''
  clear hK
  have hbX := below_drewN hb23 nq2
  generalize w3.drewN nq2 = W3 at *
  go_wp2_with fail
  go_ret
  exact ⟨by rw [HE2.out]; rfl, hB2.trans (hbX.mono hB2.size)⟩
 have HE2 : Hid (eb = ik) := by unfold Hid; rw [HE.out, decide_eq_true (by omega)]; rfl
 have hz1 : decide ((0 : Int) <= z) = true := decide_eq_true (by omega)
 have hz2 : (0 : Int) <= z := by omega
 have HI := Lib.hid (HI.out hz2)
 clear hz
 go_wp2_with fail
 go_region_held3 (fun w' => w'.cell? ⟨w.heap.size, 0, none⟩ = some (.slice A1 s.kinds.length c1) /\ w'.cell? ⟨w.heap.size + 1, 0, none⟩ = some (.slice (some ⟨b, o, none⟩) g.nodes.length c3) /\ w'.cell? ⟨b, o + i * 3 + 1, none⟩ = some (.string n.kind))
  (first
    | exact hkeep
    | go_keep)
  (first
    | (go_at_call 59
       refine HK0.mono ?_
       rintro e w3 ⟨rfl, hb3⟩
       have hb23 := hbd.trans (hb3.mono hbd.size)
       have hkeep := And.intro (cell_below hb23 x0) (And.intro (cell_below hb23 y0) (cell_below hb23 z1))
       have HI0 := HI.out w3 hb23)
    | (go_at_call 62
       refine HI0.mono ?_
       rintro e w4 ⟨rfl, hb4⟩
       have hb24 := hb23.trans (hb4.mono hb23.size)
       have hkeep := And.intro (cell_below hb24 x0) (And.intro (cell_below hb24 y0) (cell_below hb24 z1))))
 all_goals
  go_wp2_with fail
  go_ret
 all_goals exact ⟨by rw [HE2.out]; rfl, hB2.trans (hb24.mono hB2.size)⟩
theorem i64_few {z : Int} (h0 : 0 <= z) (h1 : z <= 8) : I64 z := by unfold I64; omega
theorem kfl_ok {w : World} {vk : Value} {s : Scm} (h : Sl kndL w vk s.kinds) (nm : ByteArray) : ∀ f ∈ kfl s nm, f.ok := by
 intro f hf
 unfold kfl at hf
 split at hf
 ·simp at hf
 cases hq : fieldsOf s.kinds nm with
 | none => rw [hq] at hf; simp at hf
 | some fs =>
  rw [hq] at hf
  obtain ⟨nm2, hs, hx⟩ := (fieldsOf_mem hq f).1 hf
  obtain ⟨i, k, _, hk, hfl⟩ := kin_known nm2 hs
  rw [hfl] at hx
  obtain ⟨A, c, rfl, _, _⟩ := h.form
  obtain ⟨_, _, _, _, _, _, _, hsf, _⟩ := knd_at h hk
  obtain ⟨A2, c2, rfl, _, _⟩ := hsf.form
  obtain ⟨j, hj⟩ := List.mem_iff_getElem?.1 hx
  obtain ⟨_, _, _, hok, _⟩ := fld_at hsf hj
  exact hok
theorem bnds_ok {w : World} {vb : Value} {l : List Bnd} (h : Sl bndL w vb l) : ∀ b ∈ l, Sm b.name := by
 intro b hb
 obtain ⟨A, c, rfl, _, _⟩ := h.form
 obtain ⟨j, hj⟩ := List.mem_iff_getElem?.1 hb
 obtain ⟨_, _, _, hok, _⟩ := bnd_at h hj
 exact hok.1
theorem rNode_ok {w : World} {vk vb u : Value} {s : Scm} {g : Grf} {p : List Nod} {n : Nod} (hs : ScmR w vk vb s) (hid : I64 n.id) (hkd : Sm n.kind) (hpr : Sl prpL w u n.props) : ∀ x ∈ rNodeF s g p n, x.ok := by
 intro x hx
 have hf := kfl_ok hs.1 n.kind
 have hb := bnds_ok hs.2
 unfold rNodeF at hx
 rcases List.mem_append.1 hx with hx | hx
 ·unfold rAloneF at hx
  split at hx
  ·simp at hx; subst hx; exact ⟨i64_few (by simp) (by simp), hid, hkd⟩
  rcases List.mem_append.1 hx with hx | hx
  ·obtain ⟨q, hq, rfl⟩ := List.mem_map.1 hx
   obtain ⟨A, c, rfl, _, _⟩ := hpr.form
   obtain ⟨j, hj⟩ := List.mem_iff_getElem?.1 (List.mem_filter.1 hq).1
   obtain ⟨_, _, _, hok, _⟩ := prp_at hpr hj
   exact ⟨i64_few (by simp) (by simp), hid, hok.1⟩
  obtain ⟨f, hq, rfl⟩ := List.mem_map.1 hx
  exact ⟨i64_few (by simp) (by simp), hid, (hf f (List.mem_filter.1 hq).1).1⟩
 split at hx
 ·simp at hx
 rcases List.mem_append.1 hx with hx | hx
 ·unfold rKeysF at hx
  obtain ⟨f, hq, rfl⟩ := List.mem_map.1 hx
  exact ⟨i64_few (by simp) (by simp), hid, (hf f (List.mem_filter.1 hq).1).1⟩
 obtain ⟨b, hbm, hx⟩ := List.mem_flatMap.1 hx
 unfold bondF at hx
 split at hx
 ·rcases List.mem_append.1 hx with hx | hx
  ·split at hx
   ·simp at hx; subst hx; exact ⟨i64_few (by simp) (by simp), hid, hb b hbm⟩
   simp at hx
  split at hx
  ·simp at hx; subst hx; exact ⟨i64_few (by simp) (by simp), hid, hb b hbm⟩
  simp at hx
 simp at hx
theorem nodes_ok {w : World} {vk vb vn vt : Value} {s : Scm} {g : Grf} (hs : ScmR w vk vb s) (hg : GrfR w vn vt g) (hr : Right s.kinds) (hz : grfE g = 0) : ∀ (k : Nat), ∀ x ∈ (nodesF s g (g.nodes.take k)).1, x.ok
 | 0 => by simp [nodesF]
 | k + 1 => by
  have ih := nodes_ok hs hg hr hz k
  cases hd : g.nodes[k]? with
  | none =>
   have hl : g.nodes.length <= k := by rw [List.getElem?_eq_none_iff] at hd; exact hd
   rw [List.take_of_length_le hl] at ih
   rw [List.take_of_length_le (by omega)]
   exact ih
  | some n =>
   rw [nodes_step hr (nodsOk hz) hd]
   intro x hx
   rcases List.mem_append.1 hx with hx | hx
   ·exact ih x hx
   obtain ⟨A, c, rfl, _, _⟩ := hg.1.form
   obtain ⟨_, _, _, _, hid, hkd, hpr, _⟩ := nod_at hg.1 hd
   exact rNode_ok hs hid hkd hpr x hx
theorem ofF_ok {w : World} {vk vb vn vt : Value} {s : Scm} {g : Grf} (hs : ScmR w vk vb s) (hg : GrfR w vn vt g) (hr : Right s.kinds) (hz : grfE g = 0) : ∀ x ∈ ofF s g, x.ok := by
 intro x hx
 unfold ofF at hx
 rcases List.mem_append.1 hx with hx | hx
 ·have := nodes_ok hs hg hr hz g.nodes.length
  rw [List.take_length] at this
  exact this x hx
 obtain ⟨t, ht, hx⟩ := List.mem_flatMap.1 hx
 obtain ⟨A, c, rfl, _, _⟩ := hg.2.form
 obtain ⟨j, hj⟩ := List.mem_iff_getElem?.1 ht
 obtain ⟨_, _, _, hok, _⟩ := tie_at hg.2 hj
 unfold tieF at hx
 split at hx
 ·split at hx
  ·simp at hx; subst hx; exact ⟨i64_few (by simp) (by simp), hok.2.1, hok.1⟩
  split at hx
  ·simp at hx
  simp at hx; subst hx; exact ⟨i64_few (by simp) (by simp), hok.2.1, hok.1⟩
 simp at hx; subst hx; exact ⟨i64_few (by simp) (by simp), hok.2.1, hok.1⟩
theorem kval_eql (x y : Val) (w : World) : (binOp .eql 31 (.agg #[.int .i64 x.ty, .int .i64 x.n, .string x.s]) (.agg #[.int .i64 y.ty, .int .i64 y.n, .string y.s])).run Tryz.prog w = .ok (.bool (decide (x = y))) w := by
 rw [run_eql_struct, show (10000 : Nat) = 9998 + 2 from rfl, kval_same]; rfl
theorem kval_guard (op : BinOp) (a b : Operand) (xs ys : Array Value) (w : World) : (eqGuard op 31 a b (.agg xs) (.agg ys)).run Tryz.prog w = .ok () w := run_eqGuard_agg w op 31 a b xs ys (by kernel_rfl)
def BoxV (w : World) (b : Nat) (v : Val) (wx : World) : Prop := wx.heap[b]? = some (.cells #[.int .i64 v.ty, .int .i64 v.n, .string v.s] 31 (0, 0)) /\ w.heap.size <= b /\ Below w.heap.size w wx
theorem BoxV.below {w wx wy : World} {b : Nat} {v : Val} (h : BoxV w b v wx) (hb : Below wx.heap.size wx wy) : BoxV w b v wy :=
 ⟨(hb.block _ (geB h.1)).trans h.1, h.2.1, h.2.2.trans (hb.mono h.2.2.size)⟩
theorem BoxV.late {w w3 : World} {v : Val} (h : Below w.heap.size w w3) : BoxV w w3.heap.size v (w3.alloc (.cells #[.int .i64 v.ty, .int .i64 v.n, .string v.s] 31)) :=
 ⟨heap_alloc_new _ _, h.size, h.alloc h.size _⟩
theorem BoxV.soon {w w3 : World} {v : Val} {b : Nat} {c0 c1 c2 : Value} (h : Below w.heap.size w w3) (hb : w.heap.size <= b) (hq : w3.heap[b]? = some (.cells #[c0, c1, c2] 31 (0, 0))) :
 BoxV w b v (((w3.setCell ⟨b, 0, none⟩ (.int .i64 v.ty)).setCell ⟨b, 1, none⟩ (.int .i64 v.n)).setCell ⟨b, 2, none⟩ (.string v.s)) :=
 ⟨setCell_block (setCell_block (setCell_block hq 0 _) 1 _) 2 _, hb, ((h.setCell (p := ⟨b, 0, none⟩) hb _).setCell (p := ⟨b, 1, none⟩) hb _).setCell (p := ⟨b, 2, none⟩) hb _⟩
def sawF (s : Scm) (p : List Nod) (f : Fld) (n : Nod) : Bool := match rKey s n f.name with | some v => p.any (fun m => decide (rKey s m f.name = some v)) | none => false
theorem rKeysF_eq (s : Scm) (p : List Nod) (n : Nod) : rKeysF s p n = ((kfl s n.kind).filter fun f => sawF s p f n).map (fun f => ⟨4, n.id, f.name⟩) := rfl
theorem opt_dec (o : Option Val) (v : Val) : decide (o = some v) = (o.isSome && decide (o.getD noVal = v)) := by
 cases o with
 | none => simp
 | some x => simp
theorem kept_box {w w' : World} {k : Nat} {row : Option Nat} {o q : Obj} (hg : (w.alloc o).grownBy w' row) (h : w.heap[k]? = some q) (hne : some k ≠ row) : w'.heap[k]? = some q :=
 grown_block hg ((Below.heap_alloc _ _ _ (geB h)).trans h) hne
set_option maxRecDepth 100000 in
set_option maxHeartbeats 32000000 in
theorem rfaults_any (s : Scm) (g : Grf) (vk vb vn vt : Value) (w : World) (hs : ScmR w vk vb s) (hg : GrfR w vn vt g) (h1 : (scmE s).2 = 0) (h2 : grfE g = 0) :
 Calls Tryz.prog 20 #[.agg #[vk, vb], .agg #[vn, vt]] w fun e w' => ∃ u, e = .returned u /\ Sl fltL w' u (ofF s g) /\ Below w.heap.size w w' := by
 obtain ⟨hr, hbl⟩ := scm_right h1
 obtain ⟨hnl, htl, hch, _⟩ := grf_ok h2
 obtain ⟨i0, ei, ez, ez1, ez2⟩ := info_parts flt_info
 have HRC := Lib.hid (grf_recs h2)
 have HNO := Lib.hid (nodsOk h2)
 have HKL : Hid (∀ nm, (kfl s nm).length <= 8) := kfl_len hr
 have HR := Lib.hid hr
 have HGE := Lib.hid h2
 obtain ⟨A1, c1, rfl, _, _⟩ := hs.1.form
 obtain ⟨A2, c2, rfl, _, _⟩ := hs.2.form
 obtain ⟨A3, c3, rfl, _, _⟩ := hg.1.form
 obtain ⟨A4, c4, rfl, _, _⟩ := hg.2.form
 obtain ⟨W0, hW0⟩ : ∃ W0, W0 = (w.alloc (.cells #[.slice A1 s.kinds.length c1, .slice A2 s.bonds.length c2] 61)).alloc (.cells #[.slice A3 g.nodes.length c3, .slice A4 g.ties.length c4] 25) := ⟨_, rfl⟩
 have hb0 : Below w.heap.size w W0 := by rw [hW0]; exact ((Below.refl _ _).alloc (Nat.le_refl _) _).alloc (by simp) _
 have g0 : W0.heap[w.heap.size]? = some (.cells #[.slice A1 s.kinds.length c1, .slice A2 s.bonds.length c2] 61 (0, 0)) := by
  rw [hW0, Below.heap_alloc _ _ _ (by simp)]; exact heap_alloc_new _ _
 have g1 : W0.heap[w.heap.size + 1]? = some (.cells #[.slice A3 g.nodes.length c3, .slice A4 g.ties.length c4] 25 (0, 0)) := by
  have := heap_alloc_new (w.alloc (.cells #[.slice A1 s.kinds.length c1, .slice A2 s.bonds.length c2] 61)) (.cells #[.slice A3 g.nodes.length c3, .slice A4 g.ties.length c4] 25); rw [hW0]; simpa using this
 have hW0' := hW0.symm
 have HG0 := Lib.hid g0
 have HG1 := Lib.hid g1
 have x0 := block_cell g0 0
 have x1 := block_cell g0 1
 have y0 := block_cell g1 0
 have y1 := block_cell g1 1
 have hw0 := hb0.size
 have HS := Lib.hid (hs.below hb0)
 have HG := Lib.hid (hg.below hb0)
 have HOF : Hid (ofF s g = (nodesF s g g.nodes).1 ++ g.ties.flatMap (tieF s g)) := rfl
 have X0 := Lib.hid x0
 have X1 := Lib.hid x1
 have Y0 := Lib.hid y0
 have Y1 := Lib.hid y1
 clear hs hg g0 g1 hW0 h1 h2 hr hch
 go_enter Tryz.func20, Tryz.ntmps20
 go_wp2_with fail
 clear hW0'
 go_loopw [5, 6] (fun ov i wr => ∃ (k : Nat) (acc : List Flt), k <= g.nodes.length /\ i = .int .i64 k /\ Below W0.heap.size W0 wr /\ Own wr W0.heap.size 137 3 ov acc.length (acc.flatMap Flt.enc) /\ Hid (acc = (nodesF s g (g.nodes.take k)).1)) (fun _ i _ => g.nodes.length - (intOf i).toNat)
 case atStart => exact ⟨0, [], Nat.zero_le _, rfl, Below.refl _ _, Own.nil _ _ _ _, rfl⟩
 clear x0 x1 y0 y1
 obtain ⟨k, acc, hk, rfl, hbr, hor, HAC⟩ := hrel
 have hln := nodesF_le (g := g) HKL.out hbl (fun m hm => (HRC.out m hm).1) k
 rw [<- HAC.out] at hln
 have y0 := cell_below hbr Y0.out
 by_cases hlt : k < g.nodes.length
 ·obtain ⟨n, hd⟩ : ∃ d, g.nodes[k]? = some d := ⟨_, List.getElem?_eq_getElem hlt⟩
  have hlt' : (k : Int) < (g.nodes.length : Int) := by omega
  obtain ⟨gb, o, rfl, u, hid, hkd, hpr, q0, q1, q2⟩ := nod_at HG.out.1 hd
  obtain ⟨Au, cu, rfl, _, _⟩ := hpr.form
  have q0 := cell_below hbr q0
  have q1 := cell_below hbr q1
  have q2 := cell_below hbr q2
  have HND : Hid (g.nodes[k]? = some n) := hd
  have hbk := heap_alloc_new wr (.cells #[.int .i64 n.id, .string n.kind, .slice Au n.props.length cu] 29)
  have ha1 : Below wr.heap.size wr (wr.alloc (.cells #[.int .i64 n.id, .string n.kind, .slice Au n.props.length cu] 29)) := (Below.refl _ _).alloc (Nat.le_refl _) _
  have HST := Lib.hid (nodes_step HR.out HNO.out hd)
  rw [<- HAC.out] at HST
  have hp8 := (HRC.out n (List.mem_of_getElem? hd)).1
  have HPR := Lib.hid hpr
  clear hd hpr
  go_upto_region 6 with fail
  generalize wr.alloc (.cells #[.int .i64 n.id, .string n.kind, .slice Au n.props.length cu] 29) = wa at *
  have hWa := hbr.trans (ha1.mono hbr.size)
  have HO := Lib.hid (hor.below ha1)
  have HNB : Hid (wr.heap.size < wa.heap.size) := (geB hbk)
  have HBK := Lib.hid hbk
  have x0 := cell_below hWa X0.out
  have x1 := cell_below hWa X1.out
  have z0 := block_cell hbk 0
  have z1 := block_cell hbk 1
  have z2 := block_cell hbk 2
  have hx := ralone_any s n _ _ _ wa (HS.out.below hWa) (HPR.out.below hWa) hid hkd HR.out (by omega)
  clear q0 q1 q2 y0 hor hbk
  go_wp2_with fail
  refine hx.mono ?_
  clear hx x0 x1 z0 z1 z2
  rintro e w3 ⟨v3, rfl, ho3, hk3, hl3, hb3⟩
  have hbR := hWa.trans (hb3.mono hWa.size)
  have HOR := Lib.hid (HO.out.below hb3)
  have HO3 := Lib.hid ho3
  obtain ⟨Ar, cr, rfl, _, _⟩ := HOR.out.form
  obtain ⟨Al, cl, rfl, _, _⟩ := ho3.form
  have hbk3 := (hb3.block _ (geB HBK.out)).trans HBK.out
  generalize hal : rAloneF s n = al at *
  have HAL := Lib.hid hal
  have HA3 : Hid (0 < al.length -> ∃ a, Al = some a /\ ∀ j u, (al.flatMap Flt.enc)[j]? = some u -> w3.cell? (a.add j) = some u) := fun h => by
   obtain ⟨g', o', c', hv, _, _⟩ := HO3.out.addr h
   injection hv with hv1 _ hv3
   subst hv1; subst hv3
   exact ⟨_, rfl, fun j u hj => by rw [addr_add]; exact HO3.out.cell rfl hj⟩
  clear hal ho3 HO HO3 ha1 hb3 hWa
  have hwR := hbR.size
  go_wp2_with (at_builtin; refine wpList_append_q _ rfl (.tmp 42) (.tmp 43) _ rfl W0.heap.size 137 i0 (.agg #[.int .i64 0, .int .i64 0, .string .empty]) 3 32 Tryz.underlying64 ei ez ez1 ez2 rfl (by decide) (.slice Ar acc.length cr) acc.length (acc.flatMap Flt.enc) rfl HOR.out Al al.length cl (al.flatMap Flt.enc) rfl (by rw [flat_len Flt.enc_len]) HA3.out (oneCell_flat (fun d u hu => by simp [Flt.enc] at hu; rcases hu with rfl | rfl | rfl <;> rfl) al) (by unfold maxLen; omega) (by omega) hwR ?_; intro v4 w4 hown4 hg4 hat4; have hb4 : Below W0.heap.size W0 w4 := hbR.grown hg4 hwR (fun kk hkk => (HOR.out.lt kk hkk).1); have hbk4 := grown_block hg4 hbk3 (HOR.out.ne_block hbk3 (by decide)); have x0 := cell_below hb4 X0.out; have z1 := block_cell hbk4 1)
  have ho4 : Own w4 W0.heap.size 137 3 v4 (acc ++ al).length ((acc ++ al).flatMap Flt.enc) := by
   rw [List.length_append, List.flatMap_append]; exact hown4
  have hl4 : (acc ++ al).length <= acc.length + 1008 := by rw [List.length_append]; omega
  obtain ⟨acc1, hacc1⟩ : ∃ l, acc ++ al = l := ⟨_, rfl⟩
  rw [hacc1] at ho4 hl4
  have HA1 := Lib.hid hacc1
  clear hacc1
  have hRN : rNodeF s g (g.nodes.take k) n = al ++ if kFind s.kinds n.kind < 0 then [] else rKeysF s (g.nodes.take k) n ++ s.bonds.flatMap (bondF s g n) := by unfold rNodeF; rw [HAL.out]
  have HRN := Lib.hid hRN
  obtain ⟨Ar4, cr4, rfl, _, _⟩ := ho4.form
  clear hown4 hg4 hat4 hbR HOR hRN hbk3 HBK hk3 HAL HA3 hl3
  have hx := rkind_any s.kinds n.kind _ w4 (HS.out.below hb4).1
  have HFO : Hid (0 <= kFind s.kinds n.kind -> Calls Tryz.prog 60 #[.slice A1 s.kinds.length c1, .string n.kind] w4 (FieldsO s.kinds n.kind w4)) := fun h => rfieldsO_any s.kinds n.kind _ w4 (HS.out.below hb4).1 HR.out.wf h HR.out.len HR.out.ck.f
  have HKF : Hid (0 <= kFind s.kinds n.kind -> (fieldsOf s.kinds n.kind).getD [] = kfl s n.kind) := fun h => by unfold kfl; rw [if_neg (by omega)]
  have hfl8 := HKL.out n.kind
  have HO4 := Lib.hid ho4
  have HK4 := Lib.hid hbk4
  have HPS : Hid (0 <= kFind s.kinds n.kind -> ∀ asked W, Below W0.heap.size W0 W -> Calls Tryz.prog 62 #[.slice A1 s.kinds.length c1, .string n.kind, .string asked] W fun e w' => e = .returned (.bool (isKinB s.kinds n.kind asked)) /\ Below W.heap.size W w') := fun h asked W hW =>
   ris_any s.kinds n.kind asked _ W (HS.out.below hW).1 HR.out.wf h HR.out.len
  generalize kFind s.kinds n.kind = kf at *
  clear ho4 hbk4
  refine hx.mono ?_
  clear hx x0 z1
  rintro e w5 ⟨rfl, rfl⟩
  by_cases hkf : kf < 0
  ·have hkd1 : decide (kf < 0) = true := decide_eq_true hkf
   have HE : Hid (acc1 = (nodesF s g (g.nodes.take (k + 1))).1) := by unfold Hid; rw [HST.out, HRN.out, if_pos hkf, List.append_nil, HA1.out]
   clear HST HRN HFO HKF HPS hkf
   go_wp2_with fail
   go_roundw
   case rel => exact ⟨k + 1, _, by omega, by go_num, hb4, HO4.out, HE⟩
   case measure => simp [intOf]; omega
  have hkd1 : decide (kf < 0) = false := decide_eq_false hkf
  have HE : Hid ((nodesF s g (g.nodes.take (k + 1))).1 = acc1 ++ (rKeysF s (g.nodes.take k) n ++ s.bonds.flatMap (bondF s g n))) := by unfold Hid; rw [HST.out, HRN.out, if_neg hkf, <- HA1.out, List.append_assoc]
  have HIS := Lib.hid (HPS.out (by omega))
  have hx := HFO.out (by omega)
  unfold FieldsO at hx
  rw [HKF.out (by omega)] at hx
  have HKE : Hid (rKeysF s (g.nodes.take k) n = ((kfl s n.kind).filter fun f => sawF s (g.nodes.take k) f n).map (fun f => ⟨4, n.id, f.name⟩)) := rKeysF_eq _ _ _
  generalize kfl s n.kind = fs at *
  generalize hrk : rKeysF s (g.nodes.take k) n = rks at *
  have x0 := cell_below hb4 X0.out
  have z1 := block_cell HK4.out 1
  clear HST HRN HFO HKF HPS hkf hrk
  go_wp2_with fail
  refine hx.mono ?_
  clear hx x0 z1
  rintro e w5 ⟨uf, rfl, ⟨hof, hofk⟩, hb5⟩
  obtain ⟨Af, cf, rfl, _, _⟩ := hof.form
  have hB5 := hb4.trans (hb5.mono hb4.size)
  have HO5 := Lib.hid (HO4.out.below hb5)
  have HK5 := Lib.hid ((hb5.block _ (geB HK4.out)).trans HK4.out)
  have HF5 := Lib.hid (hof.mono hb4.size)
  have HFK := Lib.hid hofk
  have hfl' : (fs.length : Int) <= 8 := by omega
  obtain ⟨bn, hbn⟩ : ∃ bn : Nat, bn = wr.heap.size := ⟨_, rfl⟩
  rw [<- hbn] at HK5
  have HRX := Lib.hid HR.out
  clear HO4 HK4 hof hofk hb5 hb4 hbr
  go_wp2_with fail
  rw [<- hbn]
  clear hbn
  go_loopw [5, 11] (fun ov i wx => ∃ (m : Nat) (acc2 : List Flt), m <= fs.length /\ i = .int .i64 m /\ Below W0.heap.size W0 wx /\ Own wx W0.heap.size 137 3 ov acc2.length (acc2.flatMap Flt.enc) /\ acc2.length <= acc1.length + m /\ Hid (acc2 = acc1 ++ ((fs.take m).filter fun f => sawF s (g.nodes.take k) f n).map (fun f => ⟨4, n.id, f.name⟩)) /\
   Hid (wx.heap[bn]? = some (.cells #[.int .i64 n.id, .string n.kind, .slice Au n.props.length cu] 29 (0, 0))) /\ Hid (Own wx W0.heap.size 84 4 (.slice Af fs.length cf) fs.length (fs.flatMap Fld.enc))) (fun _ i _ => fs.length - (intOf i).toNat)
  case atStart => exact ⟨0, acc1, Nat.zero_le _, rfl, hB5, HO5.out, Nat.le_refl _, by unfold Hid; simp, HK5, HF5⟩
  clear HO5 HK5 HF5 hB5
  obtain ⟨m, acc2, hm, rfl, hbr, hor, hal2, HA2, HK, HF⟩ := hrel
  obtain ⟨Ar, cr, rfl, _, _⟩ := hor.form
  have HOR := Lib.hid hor
  by_cases hlm : m < fs.length
  ·obtain ⟨f, hd⟩ : ∃ d, fs[m]? = some d := ⟨_, List.getElem?_eq_getElem hlm⟩
   obtain ⟨gf, of, rfl, hokf, r0, r1, r2, r3⟩ := fld_at (HF.out.flds HFK.out) hd
   have hlm' : (m : Int) < (fs.length : Int) := by omega
   have hm0 : (0 : Int) <= (m : Int) := by omega
   have HSN := Lib.hid (filt_snoc (fun f => sawF s (g.nodes.take k) f n) (fun f => (⟨4, n.id, f.name⟩ : Flt)) hd)
   have HSF : Hid (sawF s (g.nodes.take k) f n = match rKey s n f.name with | some v => (g.nodes.take k).any (fun m => decide (rKey s m f.name = some v)) | none => false) := rfl
   have x0 := cell_below hbr X0.out
   have x1 := cell_below hbr X1.out
   have z0 := block_cell HK.out 0
   have z1 := block_cell HK.out 1
   have z2 := block_cell HK.out 2
   have hbd : Below wr.heap.size wr wr.drew := (Below.refl _ _).drew
   have hbx : Below wr.heap.size wr (wr.alloc (.cells #[.int .i64 0, .int .i64 0, .string ⟨#[]⟩] 31)).drew := ((Below.refl _ _).alloc (Nat.le_refl _) _).drew
   have hzx : ((wr.alloc (.cells #[.int .i64 0, .int .i64 0, .string ⟨#[]⟩] 31)).drew).heap[wr.heap.size]? = some (.cells #[.int .i64 0, .int .i64 0, .string ⟨#[]⟩] 31 (0, 0)) := heap_alloc_new wr _
   have HKY : Hid (∀ W, Below wr.heap.size wr W -> Calls Tryz.prog 61 #[.agg #[.slice A1 s.kinds.length c1, .slice A2 s.bonds.length c2], .agg #[.int .i64 n.id, .string n.kind, .slice Au n.props.length cu], .string f.name] W fun e w' => e = .returned (.tuple #[.agg #[.int .i64 ((rKey s n f.name).getD noVal).ty, .int .i64 ((rKey s n f.name).getD noVal).n, .string ((rKey s n f.name).getD noVal).s], .bool (rKey s n f.name).isSome]) /\ Below W.heap.size W w') := fun W h =>
    rkey_any s n f.name _ _ _ W (HS.out.below (hbr.trans (h.mono hbr.size))) (HPR.out.below (hbr.trans (h.mono hbr.size))) HR.out (by omega)
   have hkeep := And.intro (cell_below hbd x0) (And.intro (cell_below hbd x1) (And.intro (cell_below hbd z0) (And.intro (cell_below hbd z1) (And.intro (cell_below hbd z2) (cell_below hbd r0)))))
   have hn1 : wr.heap.size ≠ w.heap.size := by have : w.heap.size < wr.heap.size := World.block_lt_of_cell? _ _ x0; omega
   have hn2 : wr.heap.size ≠ bn := by have : bn < wr.heap.size := World.block_lt_of_cell? _ _ z0; omega
   have hn3 : wr.heap.size ≠ gf := by have : gf < wr.heap.size := World.block_lt_of_cell? _ _ r0; omega
   have HR0 := Lib.hid r0
   have HSM : Hid (Sm f.name) := hokf.1
   have HFD : Hid (fs[m]? = some f) := hd
   generalize hrk : rKey s n f.name = rk at *
   generalize ((fs.take m).filter fun f => sawF s (g.nodes.take k) f n).map (fun f => (⟨4, n.id, f.name⟩ : Flt)) = pre at *
   generalize hsaw : sawF s (g.nodes.take k) f n = saw at *
   clear hd hokf hrk hsaw r1 r2 r3 hor
   generalize hrv : rk.getD noVal = rv at *
   generalize hri : rk.isSome = ri at *
   have HRV := Lib.hid hrv
   have HRI := Lib.hid hri
   clear hrv hri
   go_upto_region 13 with fail
   go_cut [12, 13] from 65 to 75 (fun p z wx => ∃ b, p = .pointer (some ⟨b, 0, none⟩) /\ z = .bool ri /\ BoxV wr b rv wx)
   case first =>
    go_region_held3 (fun w' => w'.cell? ⟨w.heap.size, 0, none⟩ = some (.slice A1 s.kinds.length c1) /\ w'.cell? ⟨w.heap.size, 1, none⟩ = some (.slice A2 s.bonds.length c2) /\ w'.cell? ⟨bn, 0, none⟩ = some (.int .i64 n.id) /\ w'.cell? ⟨bn, 1, none⟩ = some (.string n.kind) /\ w'.cell? ⟨bn, 2, none⟩ = some (.slice Au n.props.length cu) /\ w'.cell? ⟨gf, of + m * 4, none⟩ = some (.string f.name))
     (first
       | exact hkeep
       | go_keep)
     (first
       | (go_at_call 61
          first
            | (refine (HKY.out _ hbd).mono ?_
               rintro e w5 ⟨rfl, hb5⟩
               have hb25 := hbd.trans (hb5.mono hbd.size)
               have hkeep := And.intro (cell_below hb25 x0) (And.intro (cell_below hb25 x1) (And.intro (cell_below hb25 z0) (And.intro (cell_below hb25 z1) (And.intro (cell_below hb25 z2) (cell_below hb25 r0)))))
               have hfin := BoxV.late (v := rv) hb25)
            | (refine (HKY.out _ hbx).mono ?_
               rintro e w5 ⟨rfl, hb5⟩
               have hb25 := hbx.trans (hb5.mono hbx.size)
               have hz5 := (hb5.block _ (geB hzx)).trans hzx
               have a0 := block_free hz5 0
               have a1 := block_free hz5 1
               have a2 := block_free hz5 2
               have a3 := block_cell hz5 0
               have a4 := block_cell hz5 1
               have a5 := block_cell hz5 2
               have hkeep := And.intro (cell_below hb25 x0) (And.intro (cell_below hb25 x1) (And.intro (cell_below hb25 z0) (And.intro (cell_below hb25 z1) (And.intro (cell_below hb25 z2) (cell_below hb25 r0)))))
               have hfin := BoxV.soon (v := rv) hb25 (Nat.le_refl _) hz5)))
    all_goals
     clear hkeep hb5 hb25 HKY hbd hbx hzx
     go_wp2_with fail
     go_meet
     exact ⟨_, rfl, rfl, hfin⟩
   case rest =>
   obtain ⟨bv, rfl, rfl, hbv⟩ := hcut
   rename_i wc _
   clear hkeep hbx hbd hzx HKY hn1 hn2 hn3 x0 x1 z0 z1 z2 r0
   have hbc := hbv.2.2
   have hBc := hbr.trans (hbc.mono hbr.size)
   have HOR := Lib.hid (HOR.out.below hbc)
   have HF := Lib.hid (HF.out.below hbc)
   have HK := Lib.hid ((hbc.block _ (geB HK.out)).trans HK.out)
   have HBV := Lib.hid hbv
   have hk60 : (k : Int) <= 60 := by omega
   have hRW : wr.heap.size <= wc.heap.size := hbc.size
   obtain ⟨wo, hwo⟩ : ∃ wo : World, wo = wr := ⟨_, rfl⟩
   clear hbc hbr hwo
   cases rk with
   | none =>
    have hri : ri = false := HRI.out.symm
    subst hri
    have hsaw : saw = false := HSF.out
    subst hsaw
    have hBx := hBc
    have HOX := HOR
    have HKX := HK
    have HFX := HF
    clear HSF HRV HRI HBV hbv
    go_wp2_with fail
    go_loopw [14, 15] (fun sv j wx => sv = .bool false /\ j = .int .i64 0 /\ wx = wc) (fun _ _ _ => 0)
    case atStart => exact ⟨rfl, rfl, rfl⟩
    case round =>
     obtain ⟨rfl, rfl, rfl⟩ := hrel
     by_cases hk0 : k = 0
     ·have hk1 : ¬ ((0 : Int) < (k : Int)) := by omega
      have HE2 : Hid (acc2 = acc1 ++ ((fs.take (m + 1)).filter fun f => sawF s (g.nodes.take k) f n).map (fun f => ⟨4, n.id, f.name⟩)) := by unfold Hid; rw [HSN.out, HA2.out]; simp
      clear HSN HA2
      go_wp2_with fail
      go_roundw
      case rel => exact ⟨m + 1, acc2, by omega, by go_num, hBx, HOX.out, by omega, HE2, HKX, HFX⟩
      case measure => simp [intOf]; omega
     ·have hk1 : (0 : Int) < (k : Int) := by omega
      have HE2 : Hid (acc2 = acc1 ++ ((fs.take (m + 1)).filter fun f => sawF s (g.nodes.take k) f n).map (fun f => ⟨4, n.id, f.name⟩)) := by unfold Hid; rw [HSN.out, HA2.out]; simp
      clear HSN HA2
      go_wp2_with fail
      go_roundw
      case rel => exact ⟨m + 1, acc2, by omega, by go_num, hBx, HOX.out, by omega, HE2, HKX, HFX⟩
      case measure => simp [intOf]; omega
   | some v =>
    have hri : ri = true := HRI.out.symm
    subst hri
    have hv : rv = v := HRV.out.symm
    subst hv
    clear HRV HRI
    go_wp2_with fail
    go_loopw [14, 15] (fun sv j wx => ∃ t : Nat, t <= k /\ sv = .bool ((g.nodes.take t).any (fun m => decide (rKey s m f.name = some rv))) /\ j = .int .i64 t /\ Below wc.heap.size wc wx) (fun _ j _ => k - (intOf j).toNat)
    case atStart => exact ⟨0, Nat.zero_le _, rfl, rfl, Below.refl _ _⟩
    obtain ⟨t, ht, rfl, rfl, hbt⟩ := hrel
    have hBx := hBc.trans (hbt.mono hBc.size)
    have HOX := Lib.hid (HOR.out.below hbt)
    have HKX := Lib.hid ((hbt.block _ (geB HK.out)).trans HK.out)
    have HFX := Lib.hid (HF.out.below hbt)
    by_cases htk : t < k
    ·obtain ⟨d, hdd⟩ : ∃ d, g.nodes[t]? = some d := ⟨_, List.getElem?_eq_getElem (by omega)⟩
     have htk' : (t : Int) < (k : Int) := by omega
     have htl' : (t : Int) < (g.nodes.length : Int) := by omega
     have ht0 : (0 : Int) <= (t : Int) := by omega
     have HAS := Lib.hid (any_snoc (fun m => decide (rKey s m f.name = some rv)) hdd)
     have hpd8 := (HRC.out d (List.mem_of_getElem? hdd)).1
     obtain ⟨gd, od, hA3, u2, _, _, hpr2, q0, q1, q2⟩ := nod_at (HG.out.below hBx).1 hdd
     injection hA3 with hA3
     injection hA3 with hA31 hA32
     subst hA31; subst hA32
     obtain ⟨Au2, cu2, rfl, _, _⟩ := hpr2.form
     have hof2 := fld_at (HFX.out.flds HFK.out) HFD.out
     obtain ⟨gf2, of2, hA4, _, r0, _, _, _⟩ := hof2
     injection hA4 with hA4
     injection hA4 with hA41 hA42
     subst hA41; subst hA42
     have x0 := cell_below hBx X0.out
     have x1 := cell_below hBx X1.out
     have y0 := cell_below hBx Y0.out
     have HPR2 := Lib.hid hpr2
     have hbd : Below wr.heap.size wr wr.drew := (Below.refl _ _).drew
     have hbx : Below wr.heap.size wr (wr.alloc (.cells #[.int .i64 0, .int .i64 0, .string ⟨#[]⟩] 31)).drew := ((Below.refl _ _).alloc (Nat.le_refl _) _).drew
     have hzx : ((wr.alloc (.cells #[.int .i64 0, .int .i64 0, .string ⟨#[]⟩] 31)).drew).heap[wr.heap.size]? = some (.cells #[.int .i64 0, .int .i64 0, .string ⟨#[]⟩] 31 (0, 0)) := heap_alloc_new wr _
     have HKY : Hid (∀ W, Below wr.heap.size wr W -> Calls Tryz.prog 61 #[.agg #[.slice A1 s.kinds.length c1, .slice A2 s.bonds.length c2], .agg #[.int .i64 d.id, .string d.kind, .slice Au2 d.props.length cu2], .string f.name] W fun e w' => e = .returned (.tuple #[.agg #[.int .i64 ((rKey s d f.name).getD noVal).ty, .int .i64 ((rKey s d f.name).getD noVal).n, .string ((rKey s d f.name).getD noVal).s], .bool (rKey s d f.name).isSome]) /\ Below W.heap.size W w') := fun W h =>
      rkey_any s d f.name _ _ _ W (HS.out.below (hBx.trans (h.mono hBx.size))) (HPR2.out.below h) HR.out (by omega)
     have hkeep := And.intro (cell_below hbd x0) (And.intro (cell_below hbd x1) (And.intro (cell_below hbd y0) (And.intro (cell_below hbd q0) (And.intro (cell_below hbd q1) (And.intro (cell_below hbd q2) (cell_below hbd r0))))))
     have hn1 : wr.heap.size ≠ w.heap.size := by have : w.heap.size < wr.heap.size := World.block_lt_of_cell? _ _ x0; omega
     have hn2 : wr.heap.size ≠ w.heap.size + 1 := by have : w.heap.size + 1 < wr.heap.size := World.block_lt_of_cell? _ _ y0; omega
     have hn3 : wr.heap.size ≠ gf := by have : gf < wr.heap.size := World.block_lt_of_cell? _ _ r0; omega
     have hn4 : wr.heap.size ≠ gb := by have : gb < wr.heap.size := World.block_lt_of_cell? _ _ q0; omega
     rw [opt_dec] at HAS
     generalize (rKey s d f.name).getD noVal = rv2 at *
     generalize (rKey s d f.name).isSome = ri2 at *
     generalize (g.nodes.take t).any (fun m => decide (rKey s m f.name = some rv)) = fl at *
     clear hdd hpr2 HPR2
     go_upto_region 18 with fail
     go_cut [16, 17] from 84 to 98 (fun p z wx => ∃ b, p = .pointer (some ⟨b, 0, none⟩) /\ z = .bool ri2 /\ BoxV wr b rv2 wx)
     case first =>
      go_region_held3 (fun w' => w'.cell? ⟨w.heap.size, 0, none⟩ = some (.slice A1 s.kinds.length c1) /\ w'.cell? ⟨w.heap.size, 1, none⟩ = some (.slice A2 s.bonds.length c2) /\ w'.cell? ⟨w.heap.size + 1, 0, none⟩ = some (.slice (some ⟨gb, o, none⟩) g.nodes.length c3) /\ w'.cell? ⟨gb, o + t * 3, none⟩ = some (.int .i64 d.id) /\ w'.cell? ⟨gb, o + t * 3 + 1, none⟩ = some (.string d.kind) /\ w'.cell? ⟨gb, o + t * 3 + 2, none⟩ = some (.slice Au2 d.props.length cu2) /\ w'.cell? ⟨gf, of + m * 4, none⟩ = some (.string f.name))
       (first
         | exact hkeep
         | go_keep)
       (first
         | (go_at_call 61
            first
              | (refine (HKY.out _ hbd).mono ?_
                 rintro e w5 ⟨rfl, hb5⟩
                 have hb25 := hbd.trans (hb5.mono hbd.size)
                 have hkeep := And.intro (cell_below hb25 x0) (And.intro (cell_below hb25 x1) (And.intro (cell_below hb25 y0) (And.intro (cell_below hb25 q0) (And.intro (cell_below hb25 q1) (And.intro (cell_below hb25 q2) (cell_below hb25 r0))))))
                 have hfin := BoxV.late (v := rv2) hb25)
              | (refine (HKY.out _ hbx).mono ?_
                 rintro e w5 ⟨rfl, hb5⟩
                 have hb25 := hbx.trans (hb5.mono hbx.size)
                 have hz5 := (hb5.block _ (geB hzx)).trans hzx
                 have a0 := block_free hz5 0
                 have a1 := block_free hz5 1
                 have a2 := block_free hz5 2
                 have a3 := block_cell hz5 0
                 have a4 := block_cell hz5 1
                 have a5 := block_cell hz5 2
                 have hkeep := And.intro (cell_below hb25 x0) (And.intro (cell_below hb25 x1) (And.intro (cell_below hb25 y0) (And.intro (cell_below hb25 q0) (And.intro (cell_below hb25 q1) (And.intro (cell_below hb25 q2) (cell_below hb25 r0))))))
                 have hfin := BoxV.soon (v := rv2) hb25 (Nat.le_refl _) hz5)))
      all_goals
       clear hkeep hb5 hb25 HKY hbd hbx hzx
       go_wp2_with fail
       go_meet
       exact ⟨_, rfl, rfl, hfin⟩
     case rest =>
     obtain ⟨bw, rfl, rfl, hbw⟩ := hcut
     rename_i wd _
     clear hkeep hbx hbd hzx HKY hn1 hn2 hn3 hn4 x0 x1 y0 q0 q1 q2 r0
     have hbtd := hbt.trans (hbw.2.2.mono hbt.size)
     have hbvd := HBV.out.below hbtd
     have u0 := block_cell hbw.1 0
     have u1 := block_cell hbw.1 1
     have u2 := block_cell hbw.1 2
     have v0 := block_cell hbvd.1 0
     have v1 := block_cell hbvd.1 1
     have v2 := block_cell hbvd.1 2
     have heq := kval_eql rv2 rv
     have hgd := kval_guard
     generalize hdq : decide (rv2 = rv) = dq at *
     clear hdq hbw hbvd
     cases fl <;> cases ri2 <;> cases dq
     all_goals
      go_wp2_with fail
      go_roundw
      case rel => exact ⟨t + 1, by omega, by rw [HAS.out]; rfl, by go_num, hbtd⟩
      case measure => simp [intOf]; omega
    obtain rfl : k = t := by omega
    have hsaw : saw = (g.nodes.take k).any (fun m => decide (rKey s m f.name = some rv)) := HSF.out
    rw [<- hsaw]
    clear hsaw HSF HBV hbt HK HOR HF
    cases saw with
    | false =>
     have HE2 : Hid (acc2 = acc1 ++ ((fs.take (m + 1)).filter fun f => sawF s (g.nodes.take k) f n).map (fun f => ⟨4, n.id, f.name⟩)) := by unfold Hid; rw [HSN.out, HA2.out]; simp
     clear HSN HA2
     go_wp2_with fail
     go_roundw
     case rel => exact ⟨m + 1, acc2, by omega, by go_num, hBx, HOX.out, by omega, HE2, HKX, HFX⟩
     case measure => simp [intOf]; omega
    | true =>
     have HE2 : Hid (acc2 ++ [⟨4, n.id, f.name⟩] = acc1 ++ ((fs.take (m + 1)).filter fun f => sawF s (g.nodes.take k) f n).map (fun f => ⟨4, n.id, f.name⟩)) := by unfold Hid; rw [HSN.out, HA2.out]; simp
     have hof2 := fld_at (HFX.out.flds HFK.out) HFD.out
     obtain ⟨gf2, of2, hA4, _, r0, _, _, _⟩ := hof2
     injection hA4 with hA4
     injection hA4 with hA41 hA42
     subst hA41; subst hA42
     have z0 := block_cell HKX.out 0
     have HOR := HOX
     have hbR := hBx
     clear HSN HA2
     have hod : Own ((wr).alloc (.cells (Flt.enc (⟨4, n.id, f.name⟩ : Flt)).toArray 137)).drew W0.heap.size 137 3 (.slice Ar (acc2).length cr) (acc2).length ((acc2).flatMap Flt.enc) := HOR.out.alloc _
     have hcd : ∀ j u, (Flt.enc (⟨4, n.id, f.name⟩ : Flt))[j]? = some u -> ((wr).alloc (.cells (Flt.enc (⟨4, n.id, f.name⟩ : Flt)).toArray 137)).drew.cell? ⟨(wr).heap.size, j, none⟩ = some u := fun j u hj => by
      show ((wr).alloc (.cells (Flt.enc (⟨4, n.id, f.name⟩ : Flt)).toArray 137)).cell? ⟨(wr).heap.size, j, none⟩ = some u
      rw [World.cell?_alloc_at _ _ _ _ rfl]; simpa using hj
     have HCD := Lib.hid hcd
     have HOD := Lib.hid hod
     clear hcd hod
     go_wp2_with fail
     go_region_law
      (first
        | (refine step_here rfl ?_
           refine wp_append_q _ (.tmp 109) (.tmp 118) 64 rfl W0.heap.size 137 i0 (.agg #[.int .i64 0, .int .i64 0, .string .empty]) 3 32 Tryz.underlying64 ei ez ez1 ez2 rfl (by decide) (.slice Ar (acc2).length cr) (acc2).length ((acc2).flatMap Flt.enc) rfl HOD.out (some ⟨(wr).heap.size, 0, none⟩) 1 1 (Flt.enc (⟨4, n.id, f.name⟩ : Flt)) rfl rfl (fun _ => ⟨_, rfl, fun j u hj => by rw [addr_add, Nat.zero_add]; exact HCD.out j u hj⟩) (fun u hu => by simp [Flt.enc] at hu; rcases hu with rfl | rfl | rfl <;> rfl) (by unfold maxLen; omega) (by omega) (by have := hbR.size; show W0.heap.size <= ((wr).alloc _).heap.size; simp; omega) ?_
           intro v7 w7 hown7 hg7 hat7))
     all_goals
      have hb7 : Below W0.heap.size W0 w7 := (hbR.alloc hbR.size _).drew.grown hg7 (by have := hbR.size; show W0.heap.size <= ((wr).alloc _).heap.size; simp; omega) (fun kk hkk => (HOD.out.lt kk hkk).1)
      have ho7 : Own w7 W0.heap.size 137 3 v7 ((acc2) ++ [(⟨4, n.id, f.name⟩ : Flt)]).length (((acc2) ++ [(⟨4, n.id, f.name⟩ : Flt)]).flatMap Flt.enc) := by
       rw [flat_snoc] at hown7
       simpa using hown7
      have hba : Below wr.heap.size wr (wr.alloc (.cells (Flt.enc (⟨4, n.id, f.name⟩ : Flt)).toArray 137)).drew := ((Below.refl _ _).alloc (Nat.le_refl _) _).drew
      have hka := (hba.block _ (geB HKX.out)).trans HKX.out
      have HK7 := Lib.hid (grown_block hg7 hka (HOD.out.ne_block hka (by decide)))
      have HF7 := Lib.hid (HFX.out.same ((Same.below hba).trans (Same.grown HOD.out (by decide) hg7)))
      have hl7 : (acc2 ++ [(⟨4, n.id, f.name⟩ : Flt)]).length <= acc1.length + (m + 1) := by rw [List.length_append]; simp; omega
      clear hg7 hat7 hown7 z0 r0
      go_wp2_with fail
      go_roundw
      case rel => exact ⟨m + 1, _, by omega, by go_num, hb7, ho7, hl7, HE2, HK7, HF7⟩
      case measure => simp [intOf]; omega
  obtain rfl : m = fs.length := by omega
  have HA3 : Hid (acc2 = acc1 ++ rks) := by unfold Hid; rw [HA2.out, List.take_length, HKE.out]
  have HOR2 := HOR
  have HK2 := HK
  have hl2 : acc2.length <= acc1.length + 8 := by omega
  have hbr2 := hbr
  obtain ⟨we, hwe⟩ : ∃ we : World, we = wr := ⟨_, rfl⟩
  have hbl' : (s.bonds.length : Int) <= 12 := by omega
  clear HOR HK HF HFK HA2 HKE hor hlm hm hal2 hbr
  rw [<- hwe] at HOR2 HK2 hbr2
  go_wp2_with fail
  go_loopw [5, 18] (fun ov i wx => ∃ (j : Nat) (acc3 : List Flt), j <= s.bonds.length /\ i = .int .i64 j /\ Below W0.heap.size W0 wx /\ Own wx W0.heap.size 137 3 ov acc3.length (acc3.flatMap Flt.enc) /\ acc3.length <= acc2.length + 2 * j /\ Hid (acc3 = acc2 ++ (s.bonds.take j).flatMap (bondF s g n)) /\
   Hid (wx.heap[bn]? = some (.cells #[.int .i64 n.id, .string n.kind, .slice Au n.props.length cu] 29 (0, 0)))) (fun _ i _ => s.bonds.length - (intOf i).toNat)
  case atStart => exact ⟨0, acc2, Nat.zero_le _, rfl, by rw [<- hwe]; exact hbr2, by rw [<- hwe]; exact HOR2.out, Nat.le_refl _, by unfold Hid; simp, by unfold Hid; rw [<- hwe]; exact HK2.out⟩
  clear HOR2 HK2 hbr2 hwe
  obtain ⟨j, acc3, hj, rfl, hbr, hor, hal3, HA4, HK⟩ := hrel
  obtain ⟨Ar, cr, rfl, _, _⟩ := hor.form
  have x1 := cell_below hbr X1.out
  by_cases hlj : j < s.bonds.length
  ·obtain ⟨d, hd⟩ : ∃ d, s.bonds[j]? = some d := ⟨_, List.getElem?_eq_getElem hlj⟩
   obtain ⟨gd, od, rfl, hokd, r0, r1, r2, r3, r4⟩ := bnd_at (HS.out.below hbr).2 hd
   have hlj' : (j : Int) < (s.bonds.length : Int) := by omega
   have hj0 : (0 : Int) <= (j : Int) := by omega
   have hbk := heap_alloc_new wr (.cells #[.string d.name, .string d.src, .string d.dst, .int .i64 d.mn, .int .i64 d.mx] 82)
   have ha1 : Below wr.heap.size wr (wr.alloc (.cells #[.string d.name, .string d.src, .string d.dst, .int .i64 d.mn, .int .i64 d.mx] 82)) := (Below.refl _ _).alloc (Nat.le_refl _) _
   have HST : Hid ((s.bonds.take (j + 1)).flatMap (bondF s g n) = (s.bonds.take j).flatMap (bondF s g n) ++ bondF s g n d) := by unfold Hid; rw [take_snocF hd, List.flatMap_append]; simp
   have HBF : Hid (bondF s g n d = if isKinB s.kinds n.kind d.src = true then (if manyF g n d < d.mn then [⟨7, n.id, d.name⟩] else []) ++ (if 0 <= d.mx /\ d.mx < manyF g n d then [⟨8, n.id, d.name⟩] else []) else []) := rfl
   have HMF : Hid (manyF g n d = ((endsS g n.id d.name false).length : Int)) := rfl
   have HO := Lib.hid hor
   clear hd hokd hor
   go_upto_region 26 with fail
   generalize wr.alloc (.cells #[.string d.name, .string d.src, .string d.dst, .int .i64 d.mn, .int .i64 d.mx] 82) = wb at *
   have hbB := hbr.trans (ha1.mono hbr.size)
   have HKB := Lib.hid ((ha1.block _ (geB HK.out)).trans HK.out)
   have HOB := Lib.hid (HO.out.below ha1)
   have hx := HIS.out d.src wb hbB
   have x0 := cell_below hbB X0.out
   have z1 := block_cell HKB.out 1
   have c1 := block_cell hbk 1
   have HBX := Lib.hid hbk
   generalize isKinB s.kinds n.kind d.src = ik at *
   generalize bondF s g n d = bf at *
   clear HO HK r0 r1 r2 r3 r4 ha1 hbk
   go_wp2_with fail
   refine hx.mono ?_
   clear hx x0 x1 z1 c1
   rintro e wi ⟨rfl, hbi⟩
   have hbI := hbB.trans (hbi.mono hbB.size)
   have HOI := Lib.hid (HOB.out.below hbi)
   have HKI := Lib.hid ((hbi.block _ (geB HKB.out)).trans HKB.out)
   have HBI := Lib.hid ((hbi.block _ (geB HBX.out)).trans HBX.out)
   clear hbi hbB hbr HKB HOB HBX
   cases ik with
   | false =>
    have HE2 : Hid (acc3 = acc2 ++ (s.bonds.take (j + 1)).flatMap (bondF s g n)) := by unfold Hid; rw [HST.out, HBF.out, HA4.out]; simp
    clear HST HBF HA4 HMF
    go_wp2_with fail
    go_roundw
    case rel => exact ⟨j + 1, acc3, by omega, by go_num, hbI, HOI.out, by omega, HE2, HKI⟩
    case measure => simp [intOf]; omega
   | true =>
    have hx := rends_any g n.id d.name false _ _ wi (HG.out.below hbI) (by omega)
    have y0 := cell_below hbI Y0.out
    have y1 := cell_below hbI Y1.out
    have z0 := block_cell HKI.out 0
    have c0 := block_cell HBI.out 0
    go_wp2_with fail
    refine hx.mono ?_
    clear hx y0 y1 z0 c0
    rintro e wj ⟨ve, rfl, hve, hbj⟩
    obtain ⟨Ae, ce, rfl, _, _⟩ := hve.form
    have hbJ := hbI.trans (hbj.mono hbI.size)
    have HOJ := Lib.hid (HOI.out.below hbj)
    have HKJ := Lib.hid ((hbj.block _ (geB HKI.out)).trans HKI.out)
    have HBJ := Lib.hid ((hbj.block _ (geB HBI.out)).trans HBI.out)
    have HBF2 : Hid (bf = (if manyF g n d < d.mn then [⟨7, n.id, d.name⟩] else []) ++ (if 0 <= d.mx /\ d.mx < manyF g n d then [⟨8, n.id, d.name⟩] else [])) := by unfold Hid; rw [HBF.out]; rfl
    rw [HMF.out] at HBF2
    have HW : Hid (∀ l, l = acc3 ++ bf -> l = acc2 ++ (s.bonds.take (j + 1)).flatMap (bondF s g n)) := fun l hl => by rw [hl, HST.out, HA4.out, List.append_assoc]
    generalize (endsS g n.id d.name false).length = many at *
    clear hve hbj hbI HOI HKI HBI HBF HMF HST HA4
    have z0 := block_cell HKJ.out 0
    have c0 := block_cell HBJ.out 0
    have c3' := block_cell HBJ.out 3
    have c4' := block_cell HBJ.out 4
    have hbJs := hbJ.size
    generalize hbb : wr.heap.size = bb at *
    clear hbb
    by_cases h7 : (many : Int) < d.mn
    ·rw [if_pos h7] at HBF2
     by_cases h8 : 0 <= d.mx
     ·by_cases h9 : d.mx < (many : Int)
      ·have HE2 := Lib.hid (HW.out (acc3 ++ [⟨7, n.id, d.name⟩] ++ [⟨8, n.id, d.name⟩]) (by rw [HBF2.out, if_pos ⟨h8, h9⟩]; simp))
       clear HW HBF2
       go_wp2_with (first
        | (at_builtin; refine wpList_append_q _ rfl (.tmp 152) (.tmp 158) _ rfl W0.heap.size 137 i0 (.agg #[.int .i64 0, .int .i64 0, .string .empty]) 3 32 Tryz.underlying64 ei ez ez1 ez2 rfl (by decide) (.slice Ar acc3.length cr) (acc3).length ((acc3).flatMap Flt.enc) rfl ((HOJ.out).alloc _) (some ⟨(wj).heap.size, 0, none⟩) 1 1 (Flt.enc (⟨7, n.id, d.name⟩ : Flt)) rfl rfl (fun _ => ⟨_, rfl, fun j u hj => by rw [addr_add, Nat.zero_add, World.cell?_alloc_at _ _ _ _ rfl]; simpa [Flt.enc] using hj⟩) (fun u hu => by simp [Flt.enc] at hu; rcases hu with rfl | rfl | rfl <;> rfl) (by unfold maxLen; omega) (by omega) (by have := (hbJ).size; simp; omega) ?_; intro v7 w7 hown7 hg7 hat7; have hb7 : Below W0.heap.size W0 w7 := ((hbJ).alloc (hbJ).size _).grown hg7 (by have := (hbJ).size; simp; omega) (fun kk hkk => ((HOJ.out).lt kk hkk).1); have ho7 : Own w7 W0.heap.size 137 3 v7 ((acc3) ++ [(⟨7, n.id, d.name⟩ : Flt)]).length (((acc3) ++ [(⟨7, n.id, d.name⟩ : Flt)]).flatMap Flt.enc) := (by rw [flat_snoc] at hown7; simpa using hown7); have hk7 := kept_box (o := (.cells #[.int .i64 7, .int .i64 n.id, .string d.name] 137)) hg7 (HKJ.out) ((HOJ.out).ne_block (HKJ.out) (by decide)); have hx7 := kept_box (o := (.cells #[.int .i64 7, .int .i64 n.id, .string d.name] 137)) hg7 (HBJ.out) ((HOJ.out).ne_block (HBJ.out) (by decide)); obtain ⟨acc4, hacc4⟩ : ∃ l, acc3 ++ [(⟨7, n.id, d.name⟩ : Flt)] = l := ⟨_, rfl⟩; rw [hacc4] at ho7; have hl44 : acc4.length <= acc3.length + 1 := (by rw [<- hacc4]; simp); have HA5 := Lib.hid hacc4; clear hacc4; obtain ⟨A7, cc7, rfl, _, _⟩ := ho7.form; have z07 := block_cell hk7 0; have c07 := block_cell hx7 0; have c47 := block_cell hx7 4)
        | (at_builtin; refine wpList_append_q _ rfl (.tmp 169) (.tmp 175) _ rfl W0.heap.size 137 i0 (.agg #[.int .i64 0, .int .i64 0, .string .empty]) 3 32 Tryz.underlying64 ei ez ez1 ez2 rfl (by decide) (.slice A7 acc4.length cc7) acc4.length (acc4.flatMap Flt.enc) rfl ((ho7).alloc _) (some ⟨(w7).heap.size, 0, none⟩) 1 1 (Flt.enc (⟨8, n.id, d.name⟩ : Flt)) rfl rfl (fun _ => ⟨_, rfl, fun j u hj => by rw [addr_add, Nat.zero_add, World.cell?_alloc_at _ _ _ _ rfl]; simpa [Flt.enc] using hj⟩) (fun u hu => by simp [Flt.enc] at hu; rcases hu with rfl | rfl | rfl <;> rfl) (by unfold maxLen; omega) (by omega) (by have := (hb7).size; simp; omega) ?_; intro v8 w8 hown8 hg8 hat8; have hb8 : Below W0.heap.size W0 w8 := ((hb7).alloc (hb7).size _).grown hg8 (by have := (hb7).size; simp; omega) (fun kk hkk => ((ho7).lt kk hkk).1); have ho8 : Own w8 W0.heap.size 137 3 v8 (acc4 ++ [(⟨8, n.id, d.name⟩ : Flt)]).length ((acc4 ++ [(⟨8, n.id, d.name⟩ : Flt)]).flatMap Flt.enc) := (by rw [flat_snoc] at hown8; simpa using hown8); have hk8 := kept_box (o := (.cells #[.int .i64 8, .int .i64 n.id, .string d.name] 137)) hg8 (hk7) ((ho7).ne_block (hk7) (by decide)); have hx8 := kept_box (o := (.cells #[.int .i64 8, .int .i64 n.id, .string d.name] 137)) hg8 (hx7) ((ho7).ne_block (hx7) (by decide))))
       have hl8 : (acc4 ++ [(⟨8, n.id, d.name⟩ : Flt)]).length <= acc2.length + 2 * (j + 1) := by rw [<- HA5.out, List.length_append, List.length_append]; simp; omega
       go_roundw
       case rel => exact ⟨j + 1, _, by omega, by go_num, hb8, ho8, hl8, (by unfold Hid; rw [<- HA5.out]; exact HE2.out), hk8⟩
       case measure => simp [intOf]; omega
      have HE2 := Lib.hid (HW.out (acc3 ++ [⟨7, n.id, d.name⟩]) (by rw [HBF2.out, if_neg (fun h => h9 h.2)]; simp))
      clear HW HBF2
      go_wp2_with (at_builtin; refine wpList_append_q _ rfl (.tmp 152) (.tmp 158) _ rfl W0.heap.size 137 i0 (.agg #[.int .i64 0, .int .i64 0, .string .empty]) 3 32 Tryz.underlying64 ei ez ez1 ez2 rfl (by decide) (.slice Ar acc3.length cr) (acc3).length ((acc3).flatMap Flt.enc) rfl ((HOJ.out).alloc _) (some ⟨(wj).heap.size, 0, none⟩) 1 1 (Flt.enc (⟨7, n.id, d.name⟩ : Flt)) rfl rfl (fun _ => ⟨_, rfl, fun j u hj => by rw [addr_add, Nat.zero_add, World.cell?_alloc_at _ _ _ _ rfl]; simpa [Flt.enc] using hj⟩) (fun u hu => by simp [Flt.enc] at hu; rcases hu with rfl | rfl | rfl <;> rfl) (by unfold maxLen; omega) (by omega) (by have := (hbJ).size; simp; omega) ?_; intro v7 w7 hown7 hg7 hat7; have hb7 : Below W0.heap.size W0 w7 := ((hbJ).alloc (hbJ).size _).grown hg7 (by have := (hbJ).size; simp; omega) (fun kk hkk => ((HOJ.out).lt kk hkk).1); have ho7 : Own w7 W0.heap.size 137 3 v7 ((acc3) ++ [(⟨7, n.id, d.name⟩ : Flt)]).length (((acc3) ++ [(⟨7, n.id, d.name⟩ : Flt)]).flatMap Flt.enc) := (by rw [flat_snoc] at hown7; simpa using hown7); have hk7 := kept_box (o := (.cells #[.int .i64 7, .int .i64 n.id, .string d.name] 137)) hg7 (HKJ.out) ((HOJ.out).ne_block (HKJ.out) (by decide)); have hx7 := kept_box (o := (.cells #[.int .i64 7, .int .i64 n.id, .string d.name] 137)) hg7 (HBJ.out) ((HOJ.out).ne_block (HBJ.out) (by decide)); obtain ⟨acc4, hacc4⟩ : ∃ l, acc3 ++ [(⟨7, n.id, d.name⟩ : Flt)] = l := ⟨_, rfl⟩; rw [hacc4] at ho7; have hl44 : acc4.length <= acc3.length + 1 := (by rw [<- hacc4]; simp); have HA5 := Lib.hid hacc4; clear hacc4; obtain ⟨A7, cc7, rfl, _, _⟩ := ho7.form; have z07 := block_cell hk7 0; have c07 := block_cell hx7 0; have c47 := block_cell hx7 4)
      have hl7 : acc4.length <= acc2.length + 2 * (j + 1) := by rw [<- HA5.out, List.length_append]; simp; omega
      go_roundw
      case rel => exact ⟨j + 1, acc4, by omega, by go_num, hb7, ho7, hl7, (by unfold Hid; rw [<- HA5.out]; exact HE2.out), hk7⟩
      case measure => simp [intOf]; omega
     have HE2 := Lib.hid (HW.out (acc3 ++ [⟨7, n.id, d.name⟩]) (by rw [HBF2.out, if_neg (fun h => h8 h.1)]; simp))
     clear HW HBF2
     go_wp2_with (at_builtin; refine wpList_append_q _ rfl (.tmp 152) (.tmp 158) _ rfl W0.heap.size 137 i0 (.agg #[.int .i64 0, .int .i64 0, .string .empty]) 3 32 Tryz.underlying64 ei ez ez1 ez2 rfl (by decide) (.slice Ar acc3.length cr) (acc3).length ((acc3).flatMap Flt.enc) rfl ((HOJ.out).alloc _) (some ⟨(wj).heap.size, 0, none⟩) 1 1 (Flt.enc (⟨7, n.id, d.name⟩ : Flt)) rfl rfl (fun _ => ⟨_, rfl, fun j u hj => by rw [addr_add, Nat.zero_add, World.cell?_alloc_at _ _ _ _ rfl]; simpa [Flt.enc] using hj⟩) (fun u hu => by simp [Flt.enc] at hu; rcases hu with rfl | rfl | rfl <;> rfl) (by unfold maxLen; omega) (by omega) (by have := (hbJ).size; simp; omega) ?_; intro v7 w7 hown7 hg7 hat7; have hb7 : Below W0.heap.size W0 w7 := ((hbJ).alloc (hbJ).size _).grown hg7 (by have := (hbJ).size; simp; omega) (fun kk hkk => ((HOJ.out).lt kk hkk).1); have ho7 : Own w7 W0.heap.size 137 3 v7 ((acc3) ++ [(⟨7, n.id, d.name⟩ : Flt)]).length (((acc3) ++ [(⟨7, n.id, d.name⟩ : Flt)]).flatMap Flt.enc) := (by rw [flat_snoc] at hown7; simpa using hown7); have hk7 := kept_box (o := (.cells #[.int .i64 7, .int .i64 n.id, .string d.name] 137)) hg7 (HKJ.out) ((HOJ.out).ne_block (HKJ.out) (by decide)); have hx7 := kept_box (o := (.cells #[.int .i64 7, .int .i64 n.id, .string d.name] 137)) hg7 (HBJ.out) ((HOJ.out).ne_block (HBJ.out) (by decide)); obtain ⟨acc4, hacc4⟩ : ∃ l, acc3 ++ [(⟨7, n.id, d.name⟩ : Flt)] = l := ⟨_, rfl⟩; rw [hacc4] at ho7; have hl44 : acc4.length <= acc3.length + 1 := (by rw [<- hacc4]; simp); have HA5 := Lib.hid hacc4; clear hacc4; obtain ⟨A7, cc7, rfl, _, _⟩ := ho7.form; have z07 := block_cell hk7 0; have c07 := block_cell hx7 0; have c47 := block_cell hx7 4)
     have hl7 : acc4.length <= acc2.length + 2 * (j + 1) := by rw [<- HA5.out, List.length_append]; simp; omega
     go_roundw
     case rel => exact ⟨j + 1, acc4, by omega, by go_num, hb7, ho7, hl7, (by unfold Hid; rw [<- HA5.out]; exact HE2.out), hk7⟩
     case measure => simp [intOf]; omega
    rw [if_neg h7] at HBF2
    by_cases h8 : 0 <= d.mx
    ·by_cases h9 : d.mx < (many : Int)
     ·have HE2 := Lib.hid (HW.out (acc3 ++ [⟨8, n.id, d.name⟩]) (by rw [HBF2.out, if_pos ⟨h8, h9⟩]; simp))
      clear HW HBF2
      go_wp2_with (at_builtin; refine wpList_append_q _ rfl (.tmp 169) (.tmp 175) _ rfl W0.heap.size 137 i0 (.agg #[.int .i64 0, .int .i64 0, .string .empty]) 3 32 Tryz.underlying64 ei ez ez1 ez2 rfl (by decide) (.slice Ar acc3.length cr) (acc3).length ((acc3).flatMap Flt.enc) rfl ((HOJ.out).alloc _) (some ⟨(wj).heap.size, 0, none⟩) 1 1 (Flt.enc (⟨8, n.id, d.name⟩ : Flt)) rfl rfl (fun _ => ⟨_, rfl, fun j u hj => by rw [addr_add, Nat.zero_add, World.cell?_alloc_at _ _ _ _ rfl]; simpa [Flt.enc] using hj⟩) (fun u hu => by simp [Flt.enc] at hu; rcases hu with rfl | rfl | rfl <;> rfl) (by unfold maxLen; omega) (by omega) (by have := (hbJ).size; simp; omega) ?_; intro v8 w8 hown8 hg8 hat8; have hb8 : Below W0.heap.size W0 w8 := ((hbJ).alloc (hbJ).size _).grown hg8 (by have := (hbJ).size; simp; omega) (fun kk hkk => ((HOJ.out).lt kk hkk).1); have ho8 : Own w8 W0.heap.size 137 3 v8 ((acc3) ++ [(⟨8, n.id, d.name⟩ : Flt)]).length (((acc3) ++ [(⟨8, n.id, d.name⟩ : Flt)]).flatMap Flt.enc) := (by rw [flat_snoc] at hown8; simpa using hown8); have hk8 := kept_box (o := (.cells #[.int .i64 8, .int .i64 n.id, .string d.name] 137)) hg8 (HKJ.out) ((HOJ.out).ne_block (HKJ.out) (by decide)); have hx8 := kept_box (o := (.cells #[.int .i64 8, .int .i64 n.id, .string d.name] 137)) hg8 (HBJ.out) ((HOJ.out).ne_block (HBJ.out) (by decide)))
      have hl8 : (acc3 ++ [(⟨8, n.id, d.name⟩ : Flt)]).length <= acc2.length + 2 * (j + 1) := by rw [List.length_append]; simp; omega
      go_roundw
      case rel => exact ⟨j + 1, _, by omega, by go_num, hb8, ho8, hl8, HE2, hk8⟩
      case measure => simp [intOf]; omega
     have HE2 := Lib.hid (HW.out acc3 (by rw [HBF2.out, if_neg (fun h => h9 h.2)]; simp))
     clear HW HBF2
     go_wp2_with fail
     go_roundw
     case rel => exact ⟨j + 1, acc3, by omega, by go_num, hbJ, HOJ.out, by omega, HE2, HKJ⟩
     case measure => simp [intOf]; omega
    have HE2 := Lib.hid (HW.out acc3 (by rw [HBF2.out, if_neg (fun h => h8 h.1)]; simp))
    clear HW HBF2
    go_wp2_with fail
    go_roundw
    case rel => exact ⟨j + 1, acc3, by omega, by go_num, hbJ, HOJ.out, by omega, HE2, HKJ⟩
    case measure => simp [intOf]; omega
  obtain rfl : j = s.bonds.length := by omega
  have HE2 : Hid (acc3 = (nodesF s g (g.nodes.take (k + 1))).1) := by
   unfold Hid
   rw [HA4.out, List.take_length, HA3.out, HE.out, List.append_assoc]
  clear HA4 HA3 HE HK
  go_wp2_with fail
  go_roundw
  case rel => exact ⟨k + 1, acc3, by omega, by go_num, hbr, hor, HE2⟩
  case measure => simp [intOf]; omega
 obtain rfl : k = g.nodes.length := by omega
 rw [List.take_length] at HAC
 obtain ⟨we, hwe⟩ : ∃ we : World, we = wr := ⟨_, rfl⟩
 have HO2 := Lib.hid hor
 have HB2 := Lib.hid hbr
 rw [<- hwe] at HO2 HB2
 have y1 := cell_below hbr Y1.out
 have htl' : (g.ties.length : Int) <= 120 := by omega
 have HEN : Hid (∀ id asked W, Below W0.heap.size W0 W -> Calls Tryz.prog 65 #[.agg #[.slice A1 s.kinds.length c1, .slice A2 s.bonds.length c2], .agg #[.slice A3 g.nodes.length c3, .slice A4 g.ties.length c4], .int .i64 id, .string asked] W fun e w' => e = .returned (.bool (endB s g id asked)) /\ Below W.heap.size W w') := fun id asked W h => rend_any s g id asked _ _ _ _ W (HS.out.below h) (HG.out.below h) HR.out HGE.out
 clear hor hbr hlt hk
 go_wp2_with fail
 clear y0 y1
 go_loopw [5, 22] (fun ov i wx => ∃ (j : Nat) (acc5 : List Flt), j <= g.ties.length /\ i = .int .i64 j /\ Below W0.heap.size W0 wx /\ Own wx W0.heap.size 137 3 ov acc5.length (acc5.flatMap Flt.enc) /\ acc5.length <= acc.length + j /\ Hid (acc5 = acc ++ (g.ties.take j).flatMap (tieF s g))) (fun _ i _ => g.ties.length - (intOf i).toNat)
 case atStart => exact ⟨0, acc, Nat.zero_le _, rfl, by rw [<- hwe]; exact HB2.out, by rw [<- hwe]; exact HO2.out, Nat.le_refl _, by unfold Hid; simp⟩
 clear hwe HO2 HB2
 obtain ⟨j, acc5, hj, rfl, hbr, hor, hal5, HA5⟩ := hrel
 obtain ⟨Ar, cr, rfl, _, _⟩ := hor.form
 have y1 := cell_below hbr Y1.out
 by_cases hlj : j < g.ties.length
 ·obtain ⟨t, hd⟩ : ∃ d, g.ties[j]? = some d := ⟨_, List.getElem?_eq_getElem hlj⟩
  obtain ⟨gt, ot, rfl, hokt, r0, r1, r2⟩ := tie_at (HG.out.below hbr).2 hd
  have hlj' : (j : Int) < (g.ties.length : Int) := by omega
  have hj0 : (0 : Int) <= (j : Int) := by omega
  have hbk := heap_alloc_new wr (.cells #[.string t.bond, .int .i64 t.src, .int .i64 t.dst] 35)
  have ha1 : Below wr.heap.size wr (wr.alloc (.cells #[.string t.bond, .int .i64 t.src, .int .i64 t.dst] 35)) := (Below.refl _ _).alloc (Nat.le_refl _) _
  have HST : Hid ((g.ties.take (j + 1)).flatMap (tieF s g) = (g.ties.take j).flatMap (tieF s g) ++ tieF s g t) := by unfold Hid; rw [take_snocF hd, List.flatMap_append]; simp
  have HN0 : Hid (bFind s.bonds t.bond < 0 -> tieF s g t = [⟨5, t.src, t.bond⟩]) := tieF_none
  have HNA : Hid (∀ (i : Nat) d, bFind s.bonds t.bond = i -> s.bonds[i]? = some d -> tieF s g t = if endB s g t.src d.src = true /\ endB s g t.dst d.dst = true then [] else [⟨6, t.src, t.bond⟩]) := fun i d h1 h2 => tieF_at h1 h2
  have hbc := bFind_casesC s.bonds t.bond
  have HO := Lib.hid hor
  clear hd hokt hor
  go_upto_region 37 with fail
  generalize wr.alloc (.cells #[.string t.bond, .int .i64 t.src, .int .i64 t.dst] 35) = wb at *
  have hbB := hbr.trans (ha1.mono hbr.size)
  have HOB := Lib.hid (HO.out.below ha1)
  have x1 := cell_below hbB X1.out
  have c0 := block_cell hbk 0
  have HBX := Lib.hid hbk
  have hx := rbond_any s.bonds t.bond _ wb (HS.out.below hbB).2
  generalize tieF s g t = tf at *
  generalize bFind s.bonds t.bond = z at *
  generalize hbb : wr.heap.size = bb at *
  clear HO r0 r1 r2 ha1 hbk hbb hbr y1
  go_wp2_with fail
  refine hx.mono ?_
  clear hx x1 c0
  rintro e wi ⟨rfl, rfl⟩
  rcases hbc with hz | ⟨i, d, rfl, hdb⟩
  ·have hz' : decide (z < 0) = true := decide_eq_true hz
   have HE2 : Hid (acc5 ++ [⟨5, t.src, t.bond⟩] = acc ++ (g.ties.take (j + 1)).flatMap (tieF s g)) := by unfold Hid; rw [HST.out, HA5.out, HN0.out hz, List.append_assoc]
   have c0 := block_cell HBX.out 0
   have c1' := block_cell HBX.out 1
   clear HN0 HNA HST HA5
   go_wp2_with (at_builtin; refine wpList_append_q _ rfl (.tmp 196) (.tmp 202) _ rfl W0.heap.size 137 i0 (.agg #[.int .i64 0, .int .i64 0, .string .empty]) 3 32 Tryz.underlying64 ei ez ez1 ez2 rfl (by decide) (.slice Ar acc5.length cr) (acc5).length ((acc5).flatMap Flt.enc) rfl (((HOB).out).alloc _) (some ⟨(wb).heap.size, 0, none⟩) 1 1 (Flt.enc (⟨5, t.src, t.bond⟩ : Flt)) rfl rfl (fun _ => ⟨_, rfl, fun j u hj => by rw [addr_add, Nat.zero_add, World.cell?_alloc_at _ _ _ _ rfl]; simpa [Flt.enc] using hj⟩) (fun u hu => by simp [Flt.enc] at hu; rcases hu with rfl | rfl | rfl <;> rfl) (by unfold maxLen; omega) (by omega) (by have := (hbB).size; simp; omega) ?_; intro v7 w7 hown7 hg7 hat7)
   have hb7 : Below W0.heap.size W0 w7 := ((hbB).alloc (hbB).size _).grown hg7 (by have := (hbB).size; simp; omega) (fun kk hkk => ((HOB).out.lt kk hkk).1)
   have ho7 : Own w7 W0.heap.size 137 3 v7 (acc5 ++ [(⟨5, t.src, t.bond⟩ : Flt)]).length ((acc5 ++ [(⟨5, t.src, t.bond⟩ : Flt)]).flatMap Flt.enc) := by
    rw [flat_snoc] at hown7
    simpa using hown7
   have hl7 : (acc5 ++ [(⟨5, t.src, t.bond⟩ : Flt)]).length <= acc.length + (j + 1) := by rw [List.length_append]; simp; omega
   clear hg7 hat7 hown7
   go_roundw
   case rel => exact ⟨j + 1, _, by omega, by go_num, hb7, ho7, hl7, HE2⟩
   case measure => simp [intOf]; omega
  have hz' : decide ((i : Int) < 0) = false := decide_eq_false (by omega)
  have HN1 := Lib.hid (HNA.out i d rfl hdb)
  have hil := (List.getElem?_eq_some_iff.1 hdb).1
  have hil' : (i : Int) < (s.bonds.length : Int) := by omega
  have hi0 : (0 : Int) <= (i : Int) := by omega
  obtain ⟨gd, od, hA2, _, s0, s1, s2, s3, s4⟩ := bnd_at (HS.out.below hbB).2 hdb
  subst hA2
  generalize he1 : endB s g t.src d.src = e1 at *
  generalize he2 : endB s g t.dst d.dst = e2 at *
  have HE1 := Lib.hid he1
  have HEE2 := Lib.hid he2
  have x0 := cell_below hbB X0.out
  have x1 := cell_below hbB X1.out
  have y0 := cell_below hbB Y0.out
  have y1 := cell_below hbB Y1.out
  have c1' := block_cell HBX.out 1
  have HS2 := Lib.hid s2
  clear hdb HN0 HNA he1 he2 s0 s2 s3 s4
  go_wp2_with fail
  refine wp_mid_k 10 _ rfl rfl (by kernel_rfl) (by kernel_rfl) ?_
  simp only [List.take_succ_cons, List.take_zero, List.drop_succ_cons, List.drop_zero]
  repeat (go_big_quiet_step (fail))
  refine wpQuiet_nil ?_
  intro _ hw'
  obtain ⟨nq, hw''⟩ := hw'
  subst hw''
  intro K hK
  have hk1 := HEN.out t.src d.src (wb.drewN nq) (below_drewN hbB nq)
  rw [HE1.out] at hk1
  clear x0 x1 y0 y1 c1' s1
  go_wp2_with fail
  refine hk1.mono ?_
  clear hk1
  rintro e w4 ⟨rfl, hb4⟩
  have hb34 := (below_drewN (Below.refl wb.heap.size wb) nq).trans hb4
  refine hK _ _ ?_
  repeat (go_big_quiet_step (fail))
  refine wpQuiet_nil ?_
  intro _ hw'
  obtain ⟨nq2, hw''⟩ := hw'
  subst hw''
  clear hK
  have hbW := below_drewN hb34 nq2
  generalize w4.drewN nq2 = w5 at *
  have hb5 := hbB.trans (hbW.mono hbB.size)
  have HBX5 := Lib.hid ((hbW.block _ (geB HBX.out)).trans HBX.out)
  have HO5 := Lib.hid (HOB.out.below hbW)
  have s2 := cell_below hbW HS2.out
  have x0 := cell_below hb5 X0.out
  have x1 := cell_below hb5 X1.out
  have y0 := cell_below hb5 Y0.out
  have y1 := cell_below hb5 Y1.out
  have c2' := block_cell HBX5.out 2
  clear hb4 hb34 hbW HBX HOB hbB HS2
  go_wp2_with fail
  refine wp_mid_k 10 _ rfl rfl (by kernel_rfl) (by kernel_rfl) ?_
  simp only [List.take_succ_cons, List.take_zero, List.drop_succ_cons, List.drop_zero]
  repeat (go_big_quiet_step (fail))
  refine wpQuiet_nil ?_
  intro _ hw'
  obtain ⟨nq, hw''⟩ := hw'
  subst hw''
  intro K hK
  have hk1 := HEN.out t.dst d.dst (w5.drewN nq) (below_drewN hb5 nq)
  rw [HEE2.out] at hk1
  clear x0 x1 y0 y1 c2' s2
  go_wp2_with fail
  refine hk1.mono ?_
  clear hk1
  rintro e w6 ⟨rfl, hb6⟩
  have hb56 := (below_drewN (Below.refl w5.heap.size w5) nq).trans hb6
  refine hK _ _ ?_
  repeat (go_big_quiet_step (fail))
  refine wpQuiet_nil ?_
  intro _ hw'
  obtain ⟨nq2, hw''⟩ := hw'
  subst hw''
  clear hK
  have hbW := below_drewN hb56 nq2
  generalize w6.drewN nq2 = w8 at *
  have hb8 := hb5.trans (hbW.mono hb5.size)
  have HBX8 := Lib.hid ((hbW.block _ (geB HBX5.out)).trans HBX5.out)
  have HO8 := Lib.hid (HO5.out.below hbW)
  have c0 := block_cell HBX8.out 0
  have c1' := block_cell HBX8.out 1
  have HNT : Hid (e1 = true -> e2 = true -> acc5 = acc ++ (g.ties.take (j + 1)).flatMap (tieF s g)) := fun h1 h2 => by rw [HST.out, HA5.out, HN1.out, if_pos ⟨h1, h2⟩]; simp
  have HNF : Hid (¬ (e1 = true /\ e2 = true) -> acc5 ++ [⟨6, t.src, t.bond⟩] = acc ++ (g.ties.take (j + 1)).flatMap (tieF s g)) := fun h => by rw [HST.out, HA5.out, HN1.out, if_neg h, List.append_assoc]
  clear hb6 hb56 hbW HBX5 HO5 hb5 HN1 HST HA5 HE1 HEE2
  cases e1 with
  | false =>
   have HE2 := Lib.hid (HNF.out (by simp))
   clear HNF HNT
   go_wp2_with (at_builtin; refine wpList_append_q _ rfl (.tmp 232) (.tmp 238) _ rfl W0.heap.size 137 i0 (.agg #[.int .i64 0, .int .i64 0, .string .empty]) 3 32 Tryz.underlying64 ei ez ez1 ez2 rfl (by decide) (.slice Ar acc5.length cr) (acc5).length ((acc5).flatMap Flt.enc) rfl (((HO8).out).alloc _) (some ⟨(w8).heap.size, 0, none⟩) 1 1 (Flt.enc (⟨6, t.src, t.bond⟩ : Flt)) rfl rfl (fun _ => ⟨_, rfl, fun j u hj => by rw [addr_add, Nat.zero_add, World.cell?_alloc_at _ _ _ _ rfl]; simpa [Flt.enc] using hj⟩) (fun u hu => by simp [Flt.enc] at hu; rcases hu with rfl | rfl | rfl <;> rfl) (by unfold maxLen; omega) (by omega) (by have := (hb8).size; simp; omega) ?_; intro v7 w7 hown7 hg7 hat7)
   have hb7 : Below W0.heap.size W0 w7 := ((hb8).alloc (hb8).size _).grown hg7 (by have := (hb8).size; simp; omega) (fun kk hkk => ((HO8).out.lt kk hkk).1)
   have ho7 : Own w7 W0.heap.size 137 3 v7 (acc5 ++ [(⟨6, t.src, t.bond⟩ : Flt)]).length ((acc5 ++ [(⟨6, t.src, t.bond⟩ : Flt)]).flatMap Flt.enc) := by
    rw [flat_snoc] at hown7
    simpa using hown7
   have hl7 : (acc5 ++ [(⟨6, t.src, t.bond⟩ : Flt)]).length <= acc.length + (j + 1) := by rw [List.length_append]; simp; omega
   clear hg7 hat7 hown7
   go_roundw
   case rel => exact ⟨j + 1, _, by omega, by go_num, hb7, ho7, hl7, HE2⟩
   case measure => simp [intOf]; omega
  | true =>
   cases e2 with
   | false =>
    have HE2 := Lib.hid (HNF.out (by simp))
    clear HNF HNT
    go_wp2_with (at_builtin; refine wpList_append_q _ rfl (.tmp 232) (.tmp 238) _ rfl W0.heap.size 137 i0 (.agg #[.int .i64 0, .int .i64 0, .string .empty]) 3 32 Tryz.underlying64 ei ez ez1 ez2 rfl (by decide) (.slice Ar acc5.length cr) (acc5).length ((acc5).flatMap Flt.enc) rfl (((HO8).out).alloc _) (some ⟨(w8).heap.size, 0, none⟩) 1 1 (Flt.enc (⟨6, t.src, t.bond⟩ : Flt)) rfl rfl (fun _ => ⟨_, rfl, fun j u hj => by rw [addr_add, Nat.zero_add, World.cell?_alloc_at _ _ _ _ rfl]; simpa [Flt.enc] using hj⟩) (fun u hu => by simp [Flt.enc] at hu; rcases hu with rfl | rfl | rfl <;> rfl) (by unfold maxLen; omega) (by omega) (by have := (hb8).size; simp; omega) ?_; intro v7 w7 hown7 hg7 hat7)
    have hb7 : Below W0.heap.size W0 w7 := ((hb8).alloc (hb8).size _).grown hg7 (by have := (hb8).size; simp; omega) (fun kk hkk => ((HO8).out.lt kk hkk).1)
    have ho7 : Own w7 W0.heap.size 137 3 v7 (acc5 ++ [(⟨6, t.src, t.bond⟩ : Flt)]).length ((acc5 ++ [(⟨6, t.src, t.bond⟩ : Flt)]).flatMap Flt.enc) := by
     rw [flat_snoc] at hown7
     simpa using hown7
    have hl7 : (acc5 ++ [(⟨6, t.src, t.bond⟩ : Flt)]).length <= acc.length + (j + 1) := by rw [List.length_append]; simp; omega
    clear hg7 hat7 hown7
    go_roundw
    case rel => exact ⟨j + 1, _, by omega, by go_num, hb7, ho7, hl7, HE2⟩
    case measure => simp [intOf]; omega
   | true =>
    have HE2 := Lib.hid (HNT.out rfl rfl)
    clear HNF HNT
    go_wp2_with fail
    go_roundw
    case rel => exact ⟨j + 1, acc5, by omega, by go_num, hb8, HO8.out, by omega, HE2⟩
    case measure => simp [intOf]; omega
 obtain rfl : j = g.ties.length := by omega
 have HE2 : Hid (acc5 = ofF s g) := by unfold Hid; rw [HA5.out, List.take_length, HOF.out, HAC.out]
 have HOK5 : Hid (∀ x ∈ acc5, x.ok) := by rw [HE2.out]; exact ofF_ok HS.out HG.out HR.out HGE.out
 have HO := Lib.hid hor
 have hbF := hb0.trans (hbr.mono hw0)
 clear HA5 HAC HOF hor
 go_wp2_with fail
 go_ret
 exact ⟨_, rfl, by rw [<- HE2.out]; exact Own.flat Flt.enc_len HOK5.out HO.out, hbF⟩
end Go.Proofs.YtngbbefpphinjaaGreatDoor
