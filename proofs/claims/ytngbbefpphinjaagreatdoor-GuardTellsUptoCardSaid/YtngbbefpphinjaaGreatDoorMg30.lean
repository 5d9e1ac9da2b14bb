/- Parts: CkH, GTl. -/
import Derived.Test.YtngbbefpphinjaaGreatDoorMg19
import Derived.Test.YtngbbefpphinjaaGreatDoorMg10
import Derived.Test.YtngbbefpphinjaaGreatDoorMg25
import Derived.Test.YtngbbefpphinjaaGreatDoorMg26
import Derived.Test.YtngbbefpphinjaaGreatDoorMg29
import Derived.Test.YtngbbefpphinjaaGreatDoorMg28
import Derived.Deep.DeepCutAuto
/- Contract: kinsame.Faults: whether two lists of faults are the same. No condition. -/
namespace Go.Proofs.YtngbbefpphinjaaGreatDoor
open Go Go.RowKit
instance : DecidableEq Flt := fun x y => decidable_of_iff (x.what = y.what /\ x.node = y.node /\ x.name = y.name) ⟨fun h => by cases x; cases y; simp only at h; obtain ⟨h1, h2, h3⟩ := h; subst h1; subst h2; subst h3; rfl, fun h => by rw [h]; exact ⟨rfl, rfl, rfl⟩⟩
theorem fltq_guard (op : BinOp) (a b : Operand) (xs ys : Array Value) (w : World) : (eqGuard op 137 a b (.agg xs) (.agg ys)).run Tryz.prog w = .ok () w := run_eqGuard_agg w op 137 a b xs ys (by kernel_rfl)
theorem fltq_same (d : Nat) (x y : Flt) (w : World) : (Op.equalIn (d + 2) 137 (.agg #[.int .i64 x.what, .int .i64 x.node, .string x.name]) (.agg #[.int .i64 y.what, .int .i64 y.node, .string y.name])).run Tryz.prog w = .ok (decide (x = y)) w := by
 have hS : Tryz.prog.underlying 137 = some (.struct (Tryz.prog.fieldsOf 137)) := by kernel_rfl
 have hp : Tryz.prog.stoodInHeld 137 = false := by kernel_rfl
 have e1 := Tryz.underlying9
 have e2 := Tryz.underlying3
 rw [run_equalIn_agg w (d + 1) 137 _ _ hS hp]
 simp only [Program.fieldsOf, Tryz.underlying137]
 go_simp
 simp only [bytes_eq]
 cases x; cases y
 simp only [Flt.mk.injEq]
 rename_i a b c a' b' c'
 by_cases h1 : a = a' <;> by_cases h2 : b = b' <;> by_cases h3 : c = c' <;> simp [h1, h2, h3]
theorem fltq_neq (x y : Flt) (w : World) : (binOp .neq 137 (.agg #[.int .i64 x.what, .int .i64 x.node, .string x.name]) (.agg #[.int .i64 y.what, .int .i64 y.node, .string y.name])).run Tryz.prog w = .ok (.bool (!decide (x = y))) w := by
 rw [run_neq_struct, show (10000 : Nat) = 9998 + 2 from rfl, fltq_same]; rfl
theorem fltq_at {w : World} {A : Option Addr} {k n c : Nat} {l : List Flt} (h : Sl fltL w (.slice A n c) l) {d : Flt} (hk : l[k]? = some d) :
 ∃ b o, A = some ⟨b, o, none⟩ /\ d.ok /\ w.cell? ⟨b, o + k * 3, none⟩ = some (.int .i64 d.what) /\ w.cell? ⟨b, o + k * 3 + 1, none⟩ = some (.int .i64 d.node) /\ w.cell? ⟨b, o + k * 3 + 2, none⟩ = some (.string d.name) := by
 obtain ⟨b, o, hA, hall⟩ := h.all (len_pos hk)
 obtain ⟨cs, ⟨rfl, ok⟩, hx⟩ := hall k d hk
 exact ⟨b, o, hA, ok, hx 0 _ rfl, hx 1 _ rfl, hx 2 _ rfl⟩
set_option maxHeartbeats 1000000 in
theorem sfaults_any_q (a b : List Flt) (va vb : Value) (w : World) (ha : Sl fltL w va a) (hb : Sl fltL w vb b) : Calls Tryz.prog 22 #[va, vb] w fun e w' => e = .returned (.bool (decide (a = b))) /\ ∃ m, w' = w.drewN m := by
 obtain ⟨A, c, rfl, _, hcm⟩ := ha.form
 obtain ⟨B, d, rfl, _, hdm⟩ := hb.form
 unfold maxLen at hcm hdm
 by_cases hl : a.length = b.length
 case neg =>
  have HE : Hid (decide (a = b) = false) := decide_eq_false fun e => hl (by rw [e])
  have hl' : decide ((a.length : Int) = (b.length : Int)) = false := decide_eq_false (by omega)
  have hl2 : ((a.length : Int) == (b.length : Int)) = false := by rw [beq_eq_false_iff_ne]; omega
  clear ha hb hl
  go_enter Tryz.func22, Tryz.ntmps22
  go_wp2_with fail
  go_ret
  exact ⟨by rw [HE.out]; rfl, 0, rfl⟩
 have HL := Lib.hid hl
 have hlb : a.length <= b.length := by omega
 rw [<- hl]
 clear hl
 go_enter Tryz.func22, Tryz.ntmps22
 go_wp2_with fail
 go_loopw [5] (fun i wr => ∃ k : Nat, k <= a.length /\ i = .int .i64 k /\ Below w.heap.size w wr /\ Hid (∃ m, wr = w.drewN m) /\ Hid (∀ j x y, j < k -> a[j]? = some x -> b[j]? = some y -> x = y)) (fun i _ => a.length - (intOf i).toNat)
 case atStart => exact ⟨0, Nat.zero_le _, rfl, Below.refl _ _, ⟨0, rfl⟩, fun j x y hj => absurd hj (Nat.not_lt_zero _)⟩
 obtain ⟨k, hk, rfl, hbr, HM, HA⟩ := hrel
 by_cases hlt : k < a.length
 ·obtain ⟨x, hx⟩ : ∃ d, a[k]? = some d := ⟨_, List.getElem?_eq_getElem hlt⟩
  obtain ⟨y, hy⟩ : ∃ d, b[k]? = some d := ⟨_, List.getElem?_eq_getElem (by omega)⟩
  have hlt' : (k : Int) < (a.length : Int) := by omega
  obtain ⟨b1, o1, rfl, _, x0, x1, x2⟩ := fltq_at (ha.below hbr) hx
  obtain ⟨b2, o2, rfl, _, y0, y1, y2⟩ := fltq_at (hb.below hbr) hy
  have hneq := fltq_neq x y
  have hgd := fltq_guard
  have HX := Lib.hid hx
  have HY := Lib.hid hy
  clear hx hy
  by_cases hq : x = y
  ·have HS : Hid (∀ j x y, j < k + 1 -> a[j]? = some x -> b[j]? = some y -> x = y) := fun j p q hj hp hq2 => by
    by_cases hjk : j = k
    ·subst hjk
     have e1 := HX.out.symm.trans hp
     have e2 := HY.out.symm.trans hq2
     injection e1 with e1; injection e2 with e2
     rw [<- e1, <- e2]; exact hq
    exact HA.out j p q (by omega) hp hq2
   rw [decide_eq_true hq] at hneq
   clear ha hb hq
   go_wp2_with fail
   go_quiet (fail)
   go_wp2_with fail
   go_roundw
   case rel => exact ⟨k + 1, by omega, by go_num, below_drewN hbr _, drewN_step HM.out nq, HS⟩
   case measure => simp [intOf]; omega
  have HE : Hid (decide (a = b) = false) := decide_eq_false fun e => by
   have e1 := HX.out
   rw [e, HY.out] at e1
   injection e1 with e1
   exact hq e1.symm
  rw [decide_eq_false hq] at hneq
  clear ha hb hq
  go_wp2_with fail
  go_quiet (fail)
  go_wp2_with fail
  go_ret
  exact ⟨by rw [HE.out]; rfl, drewN_step HM.out nq⟩
 obtain rfl : k = a.length := by omega
 have HE : Hid (decide (a = b) = true) := decide_eq_true (lists_eq HL.out HA.out)
 clear ha hb
 go_wp2_with fail
 go_ret
 exact ⟨by rw [HE.out]; rfl, HM.out⟩
theorem sfaults_any (a b : List Flt) (va vb : Value) (w : World) (ha : Sl fltL w va a) (hb : Sl fltL w vb b) : Calls Tryz.prog 22 #[va, vb] w fun e w' => e = .returned (.bool (decide (a = b))) /\ Below w.heap.size w w' :=
 (sfaults_any_q a b va vb w ha hb).mono fun _ _ ⟨h, m, hm⟩ => ⟨h, by rw [hm]; exact below_drewN (Below.refl _ _) m⟩
set_option maxHeartbeats 2000000 in
theorem rconf_any (s : Scm) (g : Grf) (vk vb vn vt : Value) (w : World) (hs : ScmR w vk vb s) (hg : GrfR w vn vt g) (h1 : (scmE s).2 = 0) (h2 : grfE g = 0) :
 Calls Tryz.prog 19 #[.agg #[vk, vb], .agg #[vn, vt]] w fun e w' => e = .returned (.bool (decide ((ofF s g).length = 0))) /\ Below w.heap.size w w' := by
 obtain ⟨A1, c1, rfl, _, _⟩ := hs.1.form
 obtain ⟨A2, c2, rfl, _, _⟩ := hs.2.form
 obtain ⟨A3, c3, rfl, _, _⟩ := hg.1.form
 obtain ⟨A4, c4, rfl, _, _⟩ := hg.2.form
 obtain ⟨W0, hW0⟩ : ∃ W0, W0 = (w.alloc (.cells #[.slice A1 s.kinds.length c1, .slice A2 s.bonds.length c2] 61)).alloc (.cells #[.slice A3 g.nodes.length c3, .slice A4 g.ties.length c4] 25) := ⟨_, rfl⟩
 have hb0 : Below w.heap.size w W0 := by rw [hW0]; exact ((Below.refl _ _).alloc (Nat.le_refl _) _).alloc (by simp) _
 have g0 : W0.heap[w.heap.size]? = some (.cells #[.slice A1 s.kinds.length c1, .slice A2 s.bonds.length c2] 61 (0, 0)) := by
  rw [hW0, Below.heap_alloc _ _ _ (by simp)]; exact heap_alloc_new _ _
 have g1 : W0.heap[w.heap.size + 1]? = some (.cells #[.slice A3 g.nodes.length c3, .slice A4 g.ties.length c4] 25 (0, 0)) := by
  have := heap_alloc_new (w.alloc (.cells #[.slice A1 s.kinds.length c1, .slice A2 s.bonds.length c2] 61)) (.cells #[.slice A3 g.nodes.length c3, .slice A4 g.ties.length c4] 25); rw [hW0]; simpa using this
 have hW0' := hW0.symm
 have HG0 := Lib.hid g0
 have HG1 := Lib.hid g1
 have x0 := block_cell g0 0
 have x1 := block_cell g0 1
 have y0 := block_cell g1 0
 have y1 := block_cell g1 1
 have hw0 := hb0.size
 have hx := rfaults_any s g _ _ _ _ W0 (hs.below hb0) (hg.below hb0) h1 h2
 have HQ : Hid (decide ((ofF s g).length = 0) = decide ((ofF s g).length = 0)) := rfl
 generalize hq : decide ((ofF s g).length = 0) = q at HQ ⊢
 have HQ2 := Lib.hid hq
 clear hs hg g0 g1 hW0 h1 h2 HQ hq
 go_enter Tryz.func19, Tryz.ntmps19
 go_wp2_with fail
 clear hW0'
 refine hx.mono ?_
 clear hx x0 x1 y0 y1
 rintro e w1 ⟨u, rfl, hu, hb1⟩
 obtain ⟨A9, c9, rfl, _, hcm⟩ := hu.form
 unfold maxLen at hcm
 have hbX := hb0.trans (hb1.mono hw0)
 generalize (ofF s g).length = n at *
 clear hu hb1
 by_cases hn : n = 0
 ·have hd : Hid (q = true) := by rw [<- HQ2.out]; exact decide_eq_true hn
  have hi : ((n : Int) == 0) = true := by rw [beq_iff_eq]; omega
  clear hn HQ2
  go_wp2_with fail
  go_ret
  exact ⟨by rw [hd.out]; rfl, hbX⟩
 have hd : Hid (q = false) := by rw [<- HQ2.out]; exact decide_eq_false hn
 have hi : ((n : Int) == 0) = false := by rw [beq_eq_false_iff_ne]; omega
 clear hn HQ2
 go_wp2_with fail
 go_ret
 exact ⟨by rw [hd.out]; rfl, hbX⟩
theorem dallE_parts3 {g : Grf} {l : List Opr} (h : dallE g l = 0) : l.length <= 40 /\ grfE g = 0 /\ allE g l = 0 /\ grfE (dallG g l) = 0 := by
 obtain ⟨h1, h2, h3⟩ := dall_parts h
 refine ⟨h1, h2, h3, ?_⟩
 unfold dallG
 rw [if_pos h]; exact all_right h2 h3
theorem ready_parts {s : Scm} {g : Grf} (h : readySG s g = 0) : (scmE s).2 = 0 /\ grfE g = 0 := by
 unfold readySG at h
 split at h
 ·rename_i h1; exact ⟨h1, h⟩
 rename_i h1; exact absurd h h1
def confE (s : Scm) (g : Grf) : Int := if readySG s g = 0 then (if (ofF s g).length = 0 then 0 else 6) else readySG s g
theorem gck_conf (s : Scm) (g : Grf) (l : List Opr) : gckE s g l = if confE s g = 0 then dallE g l else confE s g := by
 unfold gckE confE
 by_cases h : readySG s g = 0
 ·rw [if_pos h, if_pos h]
  by_cases h2 : (ofF s g).length = 0
  ·rw [if_pos h2, if_pos h2, if_pos rfl]
  rw [if_neg h2, if_neg h2, if_neg (by omega)]
 rw [if_neg h, if_neg h, if_neg h]
def touchR (g : Grf) (l : List Opr) : List Int := if dallE g l = 0 then putAll g l [] else []
set_option maxRecDepth 100000 in
set_option maxHeartbeats 32000000 in
theorem guardTells_any (s : Scm) (g : Grf) (l : List Opr) (vk vb vn vt vl : Value) (w : World) (hgl : GlobOk w) (hs : ScmR w vk vb s) (hg : GrfR w vn vt g) (hl : Sl oprL w vl l) :
 Calls Tryz.prog 4 #[.agg #[vk, vb], .agg #[vn, vt], vl] w fun e w' => e = .returned (.bool true) /\ Below w.heap.size w w' := by
 obtain ⟨A1, c1, rfl, _, _⟩ := hs.1.form
 obtain ⟨A2, c2, rfl, _, _⟩ := hs.2.form
 obtain ⟨A3, c3, rfl, _, _⟩ := hg.1.form
 obtain ⟨A4, c4, rfl, _, _⟩ := hg.2.form
 obtain ⟨W0, hW0⟩ : ∃ W0, W0 = (w.alloc (.cells #[.slice A1 s.kinds.length c1, .slice A2 s.bonds.length c2] 61)).alloc (.cells #[.slice A3 g.nodes.length c3, .slice A4 g.ties.length c4] 25) := ⟨_, rfl⟩
 have hb0 : Below w.heap.size w W0 := by rw [hW0]; exact ((Below.refl _ _).alloc (Nat.le_refl _) _).alloc (by simp) _
 have g0 : W0.heap[w.heap.size]? = some (.cells #[.slice A1 s.kinds.length c1, .slice A2 s.bonds.length c2] 61 (0, 0)) := by
  rw [hW0, Below.heap_alloc _ _ _ (by simp)]; exact heap_alloc_new _ _
 have g1 : W0.heap[w.heap.size + 1]? = some (.cells #[.slice A3 g.nodes.length c3, .slice A4 g.ties.length c4] 25 (0, 0)) := by
  have := heap_alloc_new (w.alloc (.cells #[.slice A1 s.kinds.length c1, .slice A2 s.bonds.length c2] 61)) (.cells #[.slice A3 g.nodes.length c3, .slice A4 g.ties.length c4] 25); rw [hW0]; simpa using this
 have hW0' := hW0.symm
 have HG0 := Lib.hid g0
 have HG1 := Lib.hid g1
 have x0 := block_cell g0 0
 have x1 := block_cell g0 1
 have y0 := block_cell g1 0
 have y1 := block_cell g1 1
 have hw0 := hb0.size
 obtain ⟨A5, c5, rfl, _, _⟩ := hl.form
 have HC := Lib.hid (And.intro x0 (And.intro x1 (And.intro y0 y1)))
 have HS := Lib.hid (hs.below hb0)
 have HG := Lib.hid (hg.below hb0)
 have HL := Lib.hid (hl.below hb0)
 have HRD : Hid (∀ W, Below W0.heap.size W0 W -> Calls Tryz.prog 18 #[.agg #[.slice A1 s.kinds.length c1, .slice A2 s.bonds.length c2], .agg #[.slice A3 g.nodes.length c3, .slice A4 g.ties.length c4]] W fun e w' => e = .returned (.int .i64 (readySG s g)) /\ Below W.heap.size W w') := fun W h => rready_any s g _ _ _ _ W (HS.out.below h) (HG.out.below h)
 have HCF : Hid (readySG s g = 0 -> ∀ W, Below W0.heap.size W0 W -> Calls Tryz.prog 19 #[.agg #[.slice A1 s.kinds.length c1, .slice A2 s.bonds.length c2], .agg #[.slice A3 g.nodes.length c3, .slice A4 g.ties.length c4]] W fun e w' => e = .returned (.bool (decide ((ofF s g).length = 0))) /\ Below W.heap.size W w') := fun hz W h =>
  rconf_any s g _ _ _ _ W (HS.out.below h) (HG.out.below h) (ready_parts hz).1 (ready_parts hz).2
 have HRA : Hid (∀ W, Below W0.heap.size W0 W -> Calls Tryz.prog 12 #[.agg #[.slice A3 g.nodes.length c3, .slice A4 g.ties.length c4], .slice A5 l.length c5] W (RetAI w (dallG g l) (dallI g l) (dallE g l) W)) := fun W hW => rall_any g l _ _ _ w W (hb0.trans (hW.mono hb0.size)) hg hl
 have HRF : Hid (gckE s g l = 0 -> ∀ (un ut : Value) W, Below W0.heap.size W0 W -> GrfR W un ut (dallG g l) -> Calls Tryz.prog 20 #[.agg #[.slice A1 s.kinds.length c1, .slice A2 s.bonds.length c2], .agg #[un, ut]] W fun e w' => ∃ v, e = .returned v /\ Sl fltL w' v (gckR s g l) /\ Below W.heap.size W w') := fun hz un ut W hW hu => by
  obtain ⟨p0, _, p2⟩ := gck_zero hz
  have p1 := (ready_parts p0).1
  have : gckR s g l = ofF s (dallG g l) := by unfold gckR; rw [if_pos hz]
  rw [this]
  exact rfaults_any s (dallG g l) _ _ un ut W (HS.out.below hW) hu p1 (dallE_parts3 p2).2.2.2
 have HGC : Hid (∀ W, Below W0.heap.size W0 W -> Calls Tryz.prog 21 #[.agg #[.slice A1 s.kinds.length c1, .slice A2 s.bonds.length c2], .agg #[.slice A3 g.nodes.length c3, .slice A4 g.ties.length c4], .slice A5 l.length c5] W (RetF (gckR s g l) (gckE s g l) W)) := fun W h => gck_any s g l _ _ _ _ _ W (HS.out.below h) (HG.out.below h) (HL.out.below h)
 have HMY : Hid (∀ W, Below W0.heap.size W0 W -> Calls Tryz.prog 23 #[.agg #[.slice A1 s.kinds.length c1, .slice A2 s.bonds.length c2], .agg #[.slice A3 g.nodes.length c3, .slice A4 g.ties.length c4], .slice A5 l.length c5] W fun e w' => e = .returned (.tuple #[.bool (mayR s g l), errV (gckE s g l)]) /\ Below W.heap.size W w') := fun W h => may_any s g l _ _ _ _ _ W (HS.out.below h) (HG.out.below h) (HL.out.below h)
 have HRT : Hid (dallE g l = 0 -> ∀ W, Below W0.heap.size W0 W -> Calls Tryz.prog 24 #[.agg #[.slice A3 g.nodes.length c3, .slice A4 g.ties.length c4], .slice A5 l.length c5] W fun e w' => ∃ v, e = .returned v /\ Sl intL w' v (touchR g l) /\ Below W.heap.size W w') := fun hz W h => by
  obtain ⟨p1, p2, p3, _⟩ := dallE_parts3 hz
  have : touchR g l = putAll g l [] := by unfold touchR; rw [if_pos hz]
  rw [this]
  exact touched2_any g l _ _ _ W (HG.out.below h) (HL.out.below h) p1 p2 p3
 have HTO : Hid (∀ W, Below W0.heap.size W0 W -> Calls Tryz.prog 25 #[.agg #[.slice A3 g.nodes.length c3, .slice A4 g.ties.length c4], .slice A5 l.length c5] W fun e w' => ∃ v L, e = .returned (.tuple #[v, errV (dallE g l)]) /\ Sl intL w' v L /\ (dallE g l = 0 -> Asc (touchS g l) L) /\ (dallE g l ≠ 0 -> L = []) /\ Below W.heap.size W w') := fun W h => touched_any g l _ _ _ W (HG.out.below h) (HL.out.below h)
 have PT0 : Hid (dallE g l ≠ 0 -> touchR g l = []) := fun h => by unfold touchR; rw [if_neg h]
 have PTU : Hid (∀ L W v, Sl intL W v (touchR g l) -> (dallE g l = 0 -> Asc (touchS g l) L) -> (dallE g l ≠ 0 -> L = []) -> L = touchR g l) := fun L W v hv h1 h2 => by
  by_cases hz : dallE g l = 0
  ·have e : touchR g l = putAll g l [] := by unfold touchR; rw [if_pos hz]
   rw [e] at hv ⊢
   exact asc_uniq (h1 hz) (asc_put (dallE_parts3 hz).2.2.1 (ints_ok hv))
  unfold touchR; rw [if_neg hz]; exact h2 hz
 have PC : Hid (confE s g = if readySG s g = 0 then (if decide ((ofF s g).length = 0) = true then 0 else 6) else readySG s g) := by unfold Hid confE; simp
 have PG : Hid (gckE s g l = if confE s g = 0 then dallE g l else confE s g) := gck_conf s g l
 have PR : Hid (gckE s g l ≠ 0 -> gckR s g l = []) := fun h => by unfold gckR; rw [if_neg h]
 have PM : Hid (mayR s g l = (decide (gckE s g l = 0) && decide ((gckR s g l).length = 0))) := rfl
 have x0 := HC.out.1
 have x1 := HC.out.2.1
 have y0 := HC.out.2.2.1
 have y1 := HC.out.2.2.2
 generalize touchS g l = ts at *
 generalize touchR g l = tr at *
 generalize confE s g = ce at *
 generalize gckE s g l = ge at *
 generalize gckR s g l = gr at *
 generalize mayR s g l = my at *
 generalize dallE g l = ae at *
 generalize dallG g l = aG at *
 generalize dallI g l = ai at *
 generalize readySG s g = re at *
 generalize decide ((ofF s g).length = 0) = cf at *
 have hx := HRD.out W0 (Below.refl _ _)
 clear hs hg hl hW0 g0 g1 HRD
 go_enter Tryz.func4, Tryz.ntmps4
 go_wp2_with fail
 clear hW0'
 refine hx.mono ?_
 clear hx x0 x1 y0 y1
 rintro e w1 ⟨rfl, hb1⟩
 have x0 := cell_below (hb1) HC.out.1
 have x1 := cell_below (hb1) HC.out.2.1
 have y0 := cell_below (hb1) HC.out.2.2.1
 have y1 := cell_below (hb1) HC.out.2.2.2
 go_upto_if 27 with fail
 go_cut [7] (fun e wx => e = .int .i64 ce /\ Below w1.heap.size w1 wx)
 case first =>
  by_cases hz : re = 0
  case neg =>
   have hzb : (re == 0) = false := by simpa using hz
   have HX := Lib.hid (show ce = re by rw [PC.out, if_neg hz])
   clear hz x0 x1 y0 y1
   go_wp2_with fail
   go_meet
   exact ⟨by rw [HX.out], Below.refl _ _⟩
  have hzb : (re == 0) = true := by simpa using hz
  have hx := HCF.out hz w1 hb1
  have HX := Lib.hid (show ce = if cf = true then 0 else 6 by rw [PC.out, if_pos hz])
  have HZ := Lib.hid hz
  clear hz
  go_wp2_with fail
  refine hx.mono ?_
  clear hx x0 x1 y0 y1
  rintro e w2 ⟨rfl, hb2⟩
  cases cf with
  | true =>
   have HY : Hid (ce = re) := by unfold Hid; rw [HX.out, HZ.out]; rfl
   go_wp2_with fail
   go_meet
   exact ⟨by rw [HY.out], hb2⟩
  | false =>
   have HY : Hid (ce = 6) := HX.out
   go_wp2_with fail
   go_meet
   exact ⟨by rw [HY.out], hb2⟩
 case rest =>
 obtain ⟨w2, hw2⟩ : ∃ x : World, x = wc := ⟨_, rfl⟩
 subst hw2
 obtain ⟨rfl, hq2⟩ := hcut
 have hb2 := hb1.trans (hq2.mono hb1.size)
 clear HCF PC hq2 hb1 x0 x1 y0 y1
 have y0 := cell_below (hb2) HC.out.2.2.1
 have y1 := cell_below (hb2) HC.out.2.2.2
 have hx := HRA.out w2 hb2
 clear HRA
 go_wp2_with fail
 refine hx.mono ?_
 clear hx y0 y1
 rintro e w3 ⟨un, ut, rfl, hu, hq3⟩
 have hb3 := hb2.trans (hq3.mono hb2.size)
 have hur := hu.r (hb0.trans (hb3.mono hb0.size))
 obtain ⟨B1, d1, rfl, _, _⟩ := hur.1.form
 obtain ⟨B2, d2, rfl, _, _⟩ := hur.2.form
 have HUR := Lib.hid hur
 clear hu hur
 go_upto_region 7 with fail
 have hbk := heap_alloc_new w3 (.cells #[.slice B1 aG.nodes.length d1, .slice B2 aG.ties.length d2] 25)
 have ha := (Below.refl w3.heap.size w3).alloc (Nat.le_refl _) (.cells #[.slice B1 aG.nodes.length d1, .slice B2 aG.ties.length d2] 25)
 generalize w3.alloc (.cells #[.slice B1 aG.nodes.length d1, .slice B2 aG.ties.length d2] 25) = w4 at *
 have hb4 := hb3.trans (ha.mono hb3.size)
 have HUR := Lib.hid (HUR.out.below ha)
 have HBK := Lib.hid hbk
 clear hbk ha hq3 hb2 hb3
 go_upto_if 41 with fail
 go_cut [7] (fun e wx => e = .int .i64 ge /\ wx = w4)
 case first =>
  by_cases hz : ce = 0
  ·have hzb : (ce == 0) = true := by simpa using hz
   have HX := Lib.hid (show ge = ae by rw [PG.out, if_pos hz])
   clear hz
   go_wp2_with fail
   go_meet
   exact ⟨by rw [HX.out], rfl⟩
  have hzb : (ce == 0) = false := by simpa using hz
  have HX := Lib.hid (show ge = ce by rw [PG.out, if_neg hz])
  clear hz
  go_wp2_with fail
  go_meet
  exact ⟨by rw [HX.out], rfl⟩
 case rest =>
 obtain ⟨rfl, hw4⟩ := hcut
 subst hw4
 obtain ⟨w4, hw4⟩ : ∃ x : World, x = wc := ⟨_, rfl⟩
 subst hw4
 clear PG
 have x0 := cell_below (hb4) HC.out.1
 have x1 := cell_below (hb4) HC.out.2.1
 have m0 := block_cell HBK.out 0
 have m1 := block_cell HBK.out 1
 go_upto_if 44 with fail
 go_cut [12] (fun v wx => Sl fltL wx v gr /\ Below w4.heap.size w4 wx)
 case first =>
  by_cases hz : ge = 0
  case neg =>
   have hzb : (ge == 0) = false := by simpa using hz
   have HN := Lib.hid (PR.out hz)
   clear hz x0 x1 m0 m1
   go_wp2_with fail
   go_meet
   exact ⟨by rw [HN.out]; exact Sl.nil 0 (Nat.zero_le _) none, Below.refl _ _⟩
  have hzb : (ge == 0) = true := by simpa using hz
  have hx := HRF.out hz _ _ w4 hb4 HUR.out
  clear hz
  go_wp2_with fail
  refine hx.mono ?_
  clear hx x0 x1 m0 m1
  rintro e w5 ⟨v, rfl, hv, hq5⟩
  obtain ⟨Av, cv, rfl, _, _⟩ := hv.form
  have HV := Lib.hid hv
  clear hv
  go_wp2_with fail
  go_meet
  exact ⟨HV.out, hq5⟩
 case rest =>
 obtain ⟨w5, hw5⟩ : ∃ x : World, x = wc := ⟨_, rfl⟩
 subst hw5
 obtain ⟨hv, hq5⟩ := hcut
 have hb5 := hb4.trans (hq5.mono hb4.size)
 obtain ⟨Av, cv, rfl, _, hgm⟩ := hv.form
 unfold maxLen at hgm
 have HV := Lib.hid hv
 clear hv hq5 hb4 x0 x1 m0 m1 HRF HUR HBK
 have x0 := cell_below (hb5) HC.out.1
 have x1 := cell_below (hb5) HC.out.2.1
 have y0 := cell_below (hb5) HC.out.2.2.1
 have y1 := cell_below (hb5) HC.out.2.2.2
 have hx := HGC.out w5 hb5
 clear HGC
 go_wp2_with fail
 refine hx.mono ?_
 clear hx x0 x1 y0 y1
 rintro e w6 ⟨v6, rfl, hv6, hq6⟩
 obtain ⟨A6, c6, rfl, _, _⟩ := hv6.form
 have hb6 := hb5.trans (hq6.mono hb5.size)
 have HV := Lib.hid (HV.out.below hq6)
 have HV6 := Lib.hid hv6
 clear hv6 hq6 hb5
 have hx := same_any ge ge w6 (hgl.below (hb0.trans ((hb6).mono hb0.size)))
 rw [beq_self_eq_true] at hx
 go_wp2_with fail
 refine hx.mono ?_
 clear hx
 rintro e w7 ⟨rfl, hq7⟩
 have hb7 := hb6.trans (hq7.mono hb6.size)
 have HV := Lib.hid (HV.out.below hq7)
 have hx := sfaults_any gr gr _ _ w7 (HV6.out.below hq7) HV.out
 rw [decide_eq_true rfl] at hx
 clear HV6 hq7 hb6
 go_wp2_with fail
 refine hx.mono ?_
 clear hx
 rintro e w8 ⟨rfl, hq8⟩
 have hb8 := hb7.trans (hq8.mono hb7.size)
 clear hq8 hb7 HV
 have x0 := cell_below (hb8) HC.out.1
 have x1 := cell_below (hb8) HC.out.2.1
 have y0 := cell_below (hb8) HC.out.2.2.1
 have y1 := cell_below (hb8) HC.out.2.2.2
 have hx := HMY.out w8 hb8
 clear HMY
 go_wp2_with fail
 refine hx.mono ?_
 clear hx x0 x1 y0 y1
 rintro e w9 ⟨rfl, hq9⟩
 have hb9 := hb8.trans (hq9.mono hb8.size)
 have hx := same_any ge ge w9 (hgl.below (hb0.trans ((hb9).mono hb0.size)))
 rw [beq_self_eq_true] at hx
 go_wp2_with fail
 refine hx.mono ?_
 clear hx
 rintro e wa ⟨rfl, hqa⟩
 have hba := hb9.trans (hqa.mono hb9.size)
 clear hq9 hqa hb8 hb9
 have y0 := cell_below (hba) HC.out.2.2.1
 have y1 := cell_below (hba) HC.out.2.2.2
 go_upto_if 72 with fail
 go_cut [19] (fun v wx => Sl intL wx v tr /\ Below wa.heap.size wa wx)
 case first =>
  by_cases hz : ae = 0
  case neg =>
   have hzb : (ae == 0) = false := by simpa using hz
   have HN := Lib.hid (PT0.out hz)
   clear hz y0 y1
   go_wp2_with fail
   go_meet
   exact ⟨by rw [HN.out]; exact Sl.nil 0 (Nat.zero_le _) none, Below.refl _ _⟩
  have hzb : (ae == 0) = true := by simpa using hz
  have hx := HRT.out hz wa hba
  clear hz
  go_wp2_with fail
  refine hx.mono ?_
  clear hx y0 y1
  rintro e wb ⟨v, rfl, hv, hqb⟩
  obtain ⟨Aw, cw, rfl, _, _⟩ := hv.form
  have HW := Lib.hid hv
  clear hv
  go_wp2_with fail
  go_meet
  exact ⟨HW.out, hqb⟩
 case rest =>
 obtain ⟨wb, hwb⟩ : ∃ x : World, x = wc := ⟨_, rfl⟩
 subst hwb
 obtain ⟨hv, hqb⟩ := hcut
 have hbb := hba.trans (hqb.mono hba.size)
 obtain ⟨Aw, cw, rfl, _, _⟩ := hv.form
 have HW := Lib.hid hv
 clear hv hqb hba y0 y1 HRT PT0
 have y0 := cell_below (hbb) HC.out.2.2.1
 have y1 := cell_below (hbb) HC.out.2.2.2
 have hx := HTO.out wb hbb
 clear HTO
 go_wp2_with fail
 refine hx.mono ?_
 clear hx y0 y1
 rintro e wd ⟨v2, L, rfl, hv2, hL1, hL2, hqd⟩
 obtain rfl := PTU.out L wb _ HW.out hL1 hL2
 obtain ⟨Ax, cx, rfl, _, _⟩ := hv2.form
 have hbd := hbb.trans (hqd.mono hbb.size)
 have HW := Lib.hid (HW.out.below hqd)
 have HX := Lib.hid hv2
 clear hv2 hL1 hL2 hqd hbb PTU
 have hx := same_any ae ae wd (hgl.below (hb0.trans ((hbd).mono hb0.size)))
 rw [beq_self_eq_true] at hx
 go_wp2_with fail
 refine hx.mono ?_
 clear hx
 rintro e we ⟨rfl, hqe⟩
 have hbe := hbd.trans (hqe.mono hbd.size)
 have hx := ints_any L L _ _ we (HX.out.below hqe) (HW.out.below hqe)
 rw [decide_eq_true rfl] at hx
 clear HX HW hqe hbd
 go_wp2_with fail
 refine hx.mono ?_
 clear hx
 rintro e wf ⟨rfl, hqf⟩
 have hbn := hb0.trans ((hbe.trans (hqf.mono hbe.size)).mono hb0.size)
 clear hqf hbe
 have hmy := PM.out
 by_cases hz : ge = 0
 ·have hzb : (ge == 0) = true := by simpa using hz
  rw [decide_eq_true hz, Bool.true_and] at hmy
  by_cases hn : gr.length = 0
  ·rw [decide_eq_true hn] at hmy
   have hnb : ((gr.length : Int) == 0) = true := by rw [beq_iff_eq]; omega
   have HMY := Lib.hid hmy
   subst hmy
   clear hz hn
   go_wp2_with fail
   go_ret
   exact ⟨rfl, hbn⟩
  rw [decide_eq_false hn] at hmy
  have hnb : ((gr.length : Int) == 0) = false := by rw [beq_eq_false_iff_ne]; omega
  subst hmy
  clear hz hn
  go_wp2_with fail
  go_ret
  exact ⟨rfl, hbn⟩
 have hzb : (ge == 0) = false := by simpa using hz
 rw [decide_eq_false hz, Bool.false_and] at hmy
 subst hmy
 clear hz
 go_wp2_with fail
 go_ret
 exact ⟨rfl, hbn⟩
end Go.Proofs.YtngbbefpphinjaaGreatDoor
