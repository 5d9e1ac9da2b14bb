/- Parts: GdA, RefG, RfB, CkA. -/
import Derived.Test.YtngbbefpphinjaaGreatDoorMg16
import Derived.Test.YtngbbefpphinjaaGreatDoorMg19
import Derived.Test.YtngbbefpphinjaaGreatDoorMg15
import Derived.Deep.DeepCutAuto
import Derived.Test.YtngbbefpphinjaaGreatDoorMg25
import Derived.Test.YtngbbefpphinjaaGreatDoorMg21
/- Contracts: guard.Check, guard.May. No condition. -/
namespace Go.Proofs.YtngbbefpphinjaaGreatDoor
open Go Go.RowKit
set_option maxRecDepth 100000 in
set_option maxHeartbeats 8000000 in
theorem gck_any (s : Scm) (g : Grf) (l : List Opr) (vk vb vn vt vl : Value) (w : World) (hs : ScmR w vk vb s) (hg : GrfR w vn vt g) (hl : Sl oprL w vl l) :
 Calls Tryz.prog 21 #[.agg #[vk, vb], .agg #[vn, vt], vl] w (RetF (gckR s g l) (gckE s g l) w) := by
 obtain ⟨A1, c1, rfl, _, _⟩ := hs.1.form
 obtain ⟨A2, c2, rfl, _, _⟩ := hs.2.form
 obtain ⟨A3, c3, rfl, _, _⟩ := hg.1.form
 obtain ⟨A4, c4, rfl, _, _⟩ := hg.2.form
 obtain ⟨W0, hW0⟩ : ∃ W0, W0 = (w.alloc (.cells #[.slice A1 s.kinds.length c1, .slice A2 s.bonds.length c2] 61)).alloc (.cells #[.slice A3 g.nodes.length c3, .slice A4 g.ties.length c4] 25) := ⟨_, rfl⟩
 have hb0 : Below w.heap.size w W0 := by rw [hW0]; exact ((Below.refl _ _).alloc (Nat.le_refl _) _).alloc (by simp) _
 have g0 : W0.heap[w.heap.size]? = some (.cells #[.slice A1 s.kinds.length c1, .slice A2 s.bonds.length c2] 61 (0, 0)) := by
  rw [hW0, Below.heap_alloc _ _ _ (by simp)]; exact heap_alloc_new _ _
 have g1 : W0.heap[w.heap.size + 1]? = some (.cells #[.slice A3 g.nodes.length c3, .slice A4 g.ties.length c4] 25 (0, 0)) := by
  have := heap_alloc_new (w.alloc (.cells #[.slice A1 s.kinds.length c1, .slice A2 s.bonds.length c2] 61)) (.cells #[.slice A3 g.nodes.length c3, .slice A4 g.ties.length c4] 25); rw [hW0]; simpa using this
 have hW0' := hW0.symm
 have HG0 := Lib.hid g0
 have HG1 := Lib.hid g1
 have x0 := block_cell g0 0
 have x1 := block_cell g0 1
 have y0 := block_cell g1 0
 have y1 := block_cell g1 1
 have hw0 := hb0.size
 obtain ⟨A5, c5, rfl, _, _⟩ := hl.form
 have hrd := cready_any s g _ _ _ _ W0 (hs.below hb0) (hg.below hb0)
 have HS := Lib.hid (hs.below hb0)
 have HG := Lib.hid (hg.below hb0)
 have HL := Lib.hid (hl.below hb0)
 have HCE : Hid (gckE s g l = if readySG s g = 0 then (if (ofF s g).length = 0 then dallE g l else 6) else readySG s g) := rfl
 have HCR : Hid (gckR s g l = if gckE s g l = 0 then ofF s (dallG g l) else []) := rfl
 have HZ : Hid (readySG s g = 0 -> (scmE s).2 = 0 /\ grfE g = 0) := readySG_zero
 have HDZ : Hid (dallE g l = 0 -> grfE (dallG g l) = 0) := fun h => (dall_zero h).2.2.2.2
 unfold RetF
 generalize gckE s g l = ce at *
 generalize gckR s g l = cr at *
 generalize hdz : dallE g l = de at *
 have HDE := Lib.hid hdz
 have X0 := Lib.hid x0
 have X1 := Lib.hid x1
 have Y0 := Lib.hid y0
 have Y1 := Lib.hid y1
 clear hs hg hl g0 g1 hW0 hdz
 go_enter Tryz.func21, Tryz.ntmps21
 go_wp2_with fail
 clear hW0'
 refine hrd.mono ?_
 clear hrd x0 x1 y0 y1
 rintro e w1 ⟨rfl, hb1⟩
 have hB1 := hb0.trans (hb1.mono hw0)
 by_cases hz : readySG s g = 0
 case neg =>
  have HE : Hid (errV ce = .iface 122 (.int .i64 (readySG s g)) /\ cr = []) := by
   have h0 : ce = readySG s g := by rw [HCE.out, if_neg hz]
   exact ⟨by rw [h0]; exact errV_some hz, by rw [HCR.out, h0, if_neg hz]⟩
  rw [errV_some hz]
  clear hz
  go_wp2_with fail
  go_ret2
  exact ⟨.slice none 0 0, by rw [HE.out.1]; rfl, by rw [HE.out.2]; exact Sl.nil 0 (Nat.zero_le _) none, hB1⟩
 rw [errV_zero hz]
 obtain ⟨h1, h2⟩ := HZ.out hz
 have x0 := cell_below hb1 X0.out
 have x1 := cell_below hb1 X1.out
 have y0 := cell_below hb1 Y0.out
 have y1 := cell_below hb1 Y1.out
 have hof := of_any s g _ _ _ _ w1 (HS.out.below hb1) (HG.out.below hb1) h1 h2
 have HCE2 : Hid (ce = if (ofF s g).length = 0 then de else 6) := by unfold Hid; rw [HCE.out, if_pos hz]
 have HOF : Hid (∀ vn' vt' W, GrfR W vn' vt' (dallG g l) -> Below W0.heap.size W0 W -> de = 0 -> Calls Tryz.prog 67 #[.agg #[.slice A1 s.kinds.length c1, .slice A2 s.bonds.length c2], .agg #[vn', vt']] W fun e w' => ∃ u, e = .returned u /\ Sl fltL w' u (ofF s (dallG g l)) /\ Below W.heap.size W w') := fun vn' vt' W hgo hW hd =>
  of_any s (dallG g l) _ _ _ _ W (HS.out.below hW) hgo h1 (HDZ.out hd)
 generalize hol : ofF s g = F1 at *
 clear hz h1 h2 HZ HCE hol
 go_wp2_with fail
 refine hof.mono ?_
 clear hof x0 x1 y0 y1
 rintro e w2 ⟨u2, rfl, hu2, hb2⟩
 obtain ⟨A6, c6, rfl, _, _⟩ := hu2.form
 have hB2 := hb1.trans (hb2.mono hb1.size)
 have hBW := hb0.trans (hB2.mono hw0)
 by_cases hl0 : F1.length = 0
 case neg =>
  have hlp : (0 : Int) < (F1.length : Int) := by omega
  have HE : Hid (errV ce = .iface 122 (.int .i64 6) /\ cr = []) := by
   have h0 : ce = 6 := by rw [HCE2.out, if_neg hl0]
   exact ⟨by rw [h0]; rfl, by rw [HCR.out, h0]; rfl⟩
  clear hl0
  go_wp2_with fail
  go_ret2
  exact ⟨.slice none 0 0, by rw [HE.out.1]; rfl, by rw [HE.out.2]; exact Sl.nil 0 (Nat.zero_le _) none, hBW⟩
 have hlp : ¬ ((0 : Int) < (F1.length : Int)) := by omega
 have HCE3 : Hid (ce = de) := by unfold Hid; rw [HCE2.out, if_pos hl0]
 have y0 := cell_below hB2 Y0.out
 have y1 := cell_below hB2 Y1.out
 have hda := dall_any g l _ _ _ w2 (HG.out.below hB2) (HL.out.below hB2)
 rw [HDE.out] at hda
 clear hl0 HCE2
 go_wp2_with fail
 refine hda.mono ?_
 clear hda y0 y1
 rintro e w3 ⟨un, ut, rfl, hgo, hb3⟩
 obtain ⟨A7, c7, rfl, _, _⟩ := hgo.1.form
 obtain ⟨A8, c8, rfl, _, _⟩ := hgo.2.form
 have hB3 := hB2.trans (hb3.mono hB2.size)
 have hx3 : Below w3.heap.size w3 (w3.alloc (.cells #[.slice A7 (dallG g l).nodes.length c7, .slice A8 (dallG g l).ties.length c8] 25)) := (Below.refl _ _).alloc (Nat.le_refl _) _
 have rn := heap_alloc_new w3 (.cells #[.slice A7 (dallG g l).nodes.length c7, .slice A8 (dallG g l).ties.length c8] 25)
 have hB4 := hB3.trans (hx3.mono hB3.size)
 have hgo4 := hgo.below hx3
 by_cases hd : de = 0
 case neg =>
  have HE : Hid (errV ce = .iface 122 (.int .i64 de) /\ cr = []) := by
   exact ⟨by rw [HCE3.out]; exact errV_some hd, by rw [HCR.out, HCE3.out, if_neg hd]⟩
  rw [errV_some hd]
  have HBW := Lib.hid (hb0.trans (hB4.mono hw0))
  clear hd rn hgo hgo4 HOF HDZ
  go_wp2_with fail
  go_ret2
  exact ⟨.slice none 0 0, by rw [HE.out.1]; rfl, by rw [HE.out.2]; exact Sl.nil 0 (Nat.zero_le _) none, HBW.out⟩
 have HE : Hid (errV ce = .nilIface /\ cr = ofF s (dallG g l)) := ⟨by rw [HCE3.out, hd]; rfl, by rw [HCR.out, HCE3.out, if_pos hd]⟩
 have hx := HOF.out _ _ _ hgo4 hB4 hd
 rw [errV_zero hd]
 have x0 := cell_below hB4 X0.out
 have x1 := cell_below hB4 X1.out
 have z0 := block_cell rn 0
 have z1 := block_cell rn 1
 have HB4 := Lib.hid hB4
 clear hd rn hgo hgo4 HOF HDZ hB3 hb3 hx3
 go_upto_region 7 with fail
 generalize w3.alloc (.cells #[.slice A7 (dallG g l).nodes.length c7, .slice A8 (dallG g l).ties.length c8] 25) = w4 at *
 go_wp2_with fail
 refine hx.mono ?_
 clear hx x0 x1 z0 z1
 rintro e w5 ⟨u5, rfl, hu5, hb5⟩
 obtain ⟨A9, c9, rfl, _, _⟩ := hu5.form
 have HU := Lib.hid hu5
 have HBW := Lib.hid (hb0.trans ((HB4.out.trans (hb5.mono HB4.out.size)).mono hw0))
 clear hu5
 go_wp2_with fail
 go_ret2
 exact ⟨_, by rw [HE.out.1]; rfl, by rw [HE.out.2]; exact HU.out, HBW.out⟩
set_option maxRecDepth 100000 in
set_option maxHeartbeats 8000000 in
theorem may_any (s : Scm) (g : Grf) (l : List Opr) (vk vb vn vt vl : Value) (w : World) (hs : ScmR w vk vb s) (hg : GrfR w vn vt g) (hl : Sl oprL w vl l) :
 Calls Tryz.prog 23 #[.agg #[vk, vb], .agg #[vn, vt], vl] w fun e w' => e = .returned (.tuple #[.bool (mayR s g l), errV (gckE s g l)]) /\ Below w.heap.size w w' := by
 obtain ⟨A1, c1, rfl, _, _⟩ := hs.1.form
 obtain ⟨A2, c2, rfl, _, _⟩ := hs.2.form
 obtain ⟨A3, c3, rfl, _, _⟩ := hg.1.form
 obtain ⟨A4, c4, rfl, _, _⟩ := hg.2.form
 obtain ⟨W0, hW0⟩ : ∃ W0, W0 = (w.alloc (.cells #[.slice A1 s.kinds.length c1, .slice A2 s.bonds.length c2] 61)).alloc (.cells #[.slice A3 g.nodes.length c3, .slice A4 g.ties.length c4] 25) := ⟨_, rfl⟩
 have hb0 : Below w.heap.size w W0 := by rw [hW0]; exact ((Below.refl _ _).alloc (Nat.le_refl _) _).alloc (by simp) _
 have g0 : W0.heap[w.heap.size]? = some (.cells #[.slice A1 s.kinds.length c1, .slice A2 s.bonds.length c2] 61 (0, 0)) := by
  rw [hW0, Below.heap_alloc _ _ _ (by simp)]; exact heap_alloc_new _ _
 have g1 : W0.heap[w.heap.size + 1]? = some (.cells #[.slice A3 g.nodes.length c3, .slice A4 g.ties.length c4] 25 (0, 0)) := by
  have := heap_alloc_new (w.alloc (.cells #[.slice A1 s.kinds.length c1, .slice A2 s.bonds.length c2] 61)) (.cells #[.slice A3 g.nodes.length c3, .slice A4 g.ties.length c4] 25); rw [hW0]; simpa using this
 have hW0' := hW0.symm
 have HG0 := Lib.hid g0
 have HG1 := Lib.hid g1
 have x0 := block_cell g0 0
 have x1 := block_cell g0 1
 have y0 := block_cell g1 0
 have y1 := block_cell g1 1
 have hw0 := hb0.size
 obtain ⟨A5, c5, rfl, _, _⟩ := hl.form
 have hx := gck_any s g l _ _ _ _ _ W0 (hs.below hb0) (hg.below hb0) (hl.below hb0)
 have HM : Hid (mayR s g l = (decide (gckE s g l = 0) && decide ((gckR s g l).length = 0))) := rfl
 generalize mayR s g l = m at *
 generalize gckE s g l = ce at *
 generalize gckR s g l = cr at *
 clear hs hg hl g0 g1 hW0
 go_enter Tryz.func23, Tryz.ntmps23
 go_wp2_with fail
 clear hW0'
 refine hx.mono ?_
 clear hx x0 x1 y0 y1
 rintro e w1 ⟨u, rfl, hu, hb1⟩
 obtain ⟨A6, c6, rfl, _, _⟩ := hu.form
 have hBW := hb0.trans (hb1.mono hw0)
 clear hu
 by_cases hz : ce = 0
 ·have hfl : decide ((cr.length : Int) = 0) = decide (cr.length = 0) := by
   by_cases h : cr.length = 0
   ·rw [decide_eq_true h, decide_eq_true (by omega)]
   rw [decide_eq_false h, decide_eq_false (by omega)]
  have hfb : ((cr.length : Int) == 0) = decide (cr.length = 0) := hfl
  have HE : Hid (m = decide (cr.length = 0) /\ errV ce = .nilIface) := ⟨by rw [HM.out, decide_eq_true hz]; rfl, errV_zero hz⟩
  rw [errV_zero hz]
  clear hz hfl HM
  generalize decide (cr.length = 0) = d at *
  go_wp2_with fail
  go_ret2
  exact ⟨by rw [HE.out.1, HE.out.2]; rfl, hBW⟩
 have HE : Hid (m = false /\ errV ce = .iface 122 (.int .i64 ce)) := ⟨by rw [HM.out, decide_eq_false hz]; rfl, errV_some hz⟩
 rw [errV_some hz]
 clear hz HM
 go_wp2_with fail
 go_ret2
 exact ⟨by rw [HE.out.1, HE.out.2]; rfl, hBW⟩
set_option maxRecDepth 100000 in
set_option maxHeartbeats 4000000 in
theorem rkinds_any (l : List Knd) (v : Value) (w : World) (hv : Sl kndL w v l) :
 Calls Tryz.prog 123 #[v] w fun e w' => e = .returned (.tuple #[.string (checkE l).1, .int .i64 (checkE l).2]) /\ Below w.heap.size w w' := by
 obtain ⟨A, c, rfl, hlc, hcA⟩ := hv.form
 unfold maxLen at hcA
 have hlm : (l.length : Int) <= 9223372036854775807 := by omega
 by_cases h12 : 12 < l.length
 ·have HE : Hid (checkE l = (.empty, 4)) := by unfold Hid checkE; rw [if_pos h12]
  have h12' : (12 : Int) < (l.length : Int) := by omega
  clear hv
  go_enter Tryz.func123, Tryz.ntmps123
  go_wp2_with fail
  go_ret2
  exact ⟨by rw [HE.out]; rfl, Below.refl _ _⟩
 have h12' : (l.length : Int) <= 12 := by omega
 have HE0 : Hid (checkE l = kindsE [] l) := by unfold Hid checkE; rw [if_neg h12]
 go_enter Tryz.func123, Tryz.ntmps123
 go_wp2_with fail
 go_loopw [4] (fun i wr => ∃ j : Nat, j <= l.length /\ i = .int .i64 j /\ Below w.heap.size w wr /\ Hid (kindsE [] l = kindsE (l.take j) (l.drop j)) /\ Hid (Wf (l.take j) /\ ∀ x ∈ l.take j, x.fields.length <= 8)) (fun i _ => l.length - (intOf i).toNat)
 case atStart => exact ⟨0, Nat.zero_le _, rfl, Below.refl _ _, rfl, fun i k hk => by simp at hk, fun x hx => by simp at hx⟩
 obtain ⟨j, hj, rfl, hbr, HR, HS⟩ := hrel
 by_cases hlt : j < l.length
 ·obtain ⟨k, hk⟩ : ∃ k, l[j]? = some k := ⟨_, List.getElem?_eq_getElem hlt⟩
  obtain ⟨b, o, hAe, u, x, hnm, hso, hsf, c0, c1, c2⟩ := knd_at (hv.below hbr) hk
  subst hAe
  have hlt' : (j : Int) < (l.length : Int) := by omega
  have hone := rkind1_any l j k _ wr (hv.below hbr) hk HS.out.1 (by omega) HS.out.2
  have HK := Lib.hid (kindsE_step hk HR.out)
  have HT := Lib.hid (take_step hk)
  have HKK := Lib.hid hk
  clear hk HR c1 c2 hso hsf
  go_wp2_with fail
  refine hone.mono ?_
  clear hone
  rintro e w3 ⟨rfl, hb3⟩
  have hB3 := hbr.trans (hb3.mono hbr.size)
  have x0 := cell_below hb3 c0
  clear c0
  by_cases he : oneE (l.take j) k = 0
  ·have HN : Hid (kindsE [] l = kindsE (l.take (j + 1)) (l.drop (j + 1))) := by unfold Hid; rw [HK.out, if_pos he]
   have HS2 : Hid (Wf (l.take (j + 1)) /\ ∀ x ∈ l.take (j + 1), x.fields.length <= 8) := by
    refine ⟨wf_snoc HS.out.1 HKK.out (oneE_zero he).new (oneE_zero he).ofs, ?_⟩
    intro x hx
    rw [HT.out] at hx
    rcases List.mem_append.1 hx with h | h
    ·exact HS.out.2 x h
    simp at h; subst h; exact (oneE_ofl he).2
   rw [he]
   clear he HK
   go_wp2_with fail
   go_roundw
   case rel => exact ⟨j + 1, by omega, by go_num, hB3, HN, HS2⟩
   case measure => simp [intOf]; omega
  have HE : Hid (checkE l = (k.name, oneE (l.take j) k)) := by unfold Hid; rw [HE0.out, HK.out, if_neg he]
  have hne := he
  clear HK
  generalize oneE (l.take j) k = z at *
  go_wp2_with fail
  go_ret2
  exact ⟨by rw [HE.out]; rfl, hB3⟩
 obtain rfl : j = l.length := by omega
 have HE : Hid (checkE l = (.empty, 0)) := by unfold Hid; rw [HE0.out, HR.out, List.drop_length]; rfl
 clear hv
 go_wp2_with fail
 go_ret2
 exact ⟨by rw [HE.out]; rfl, hbr⟩
set_option maxHeartbeats 1000000 in
theorem rbond_any (l : List Bnd) (name : ByteArray) (v : Value) (w : World) (hv : Sl bndL w v l) : Calls Tryz.prog 64 #[v, .string name] w fun e w' => e = .returned (.int .i64 (bFind l name)) /\ w = w' := by
 obtain ⟨A, c, rfl, hlc, hcm⟩ := hv.form
 unfold maxLen at hcm
 go_enter Tryz.func64, Tryz.ntmps64
 go_wp2_with fail
 go_loop [5] (fun i => ∃ k : Nat, k <= l.length /\ i = .int .i64 k /\ Hid (∀ j x, j < k -> l[j]? = some x -> decide (x.name = name) = false)) (fun i => l.length - (intOf i).toNat)
 case atStart => exact ⟨0, Nat.zero_le _, rfl, fun j x hj => absurd hj (Nat.not_lt_zero _)⟩
 obtain ⟨k, hk, rfl, HA⟩ := hrel
 by_cases hlt : k < l.length
 ·obtain ⟨d, hd⟩ : ∃ d, l[k]? = some d := ⟨_, List.getElem?_eq_getElem hlt⟩
  obtain ⟨b, o, rfl, _, c0, _⟩ := bnd_at hv hd
  have HD : Hid (l[k]? = some d) := hd
  clear hd hv
  by_cases hq0 : d.name = name
  ·have hq : decide (d.name = name) = true := decide_eq_true hq0
   have HE : Hid (bFind l name = k) := by unfold Hid bFind; exact idxI_hit (p := fun k : Bnd => decide (k.name = name)) HA.out HD.out hq
   clear hq
   subst hq0
   go_wp2_with fail
   go_ret
   exact ⟨by rw [HE.out]; rfl, rfl⟩
  have hq : decide (d.name = name) = false := decide_eq_false hq0
  have hqb : (d.name.toList == name.toList) = false := by rw [bytes_beq]; exact hq
  have HS : Hid (∀ j y, j < k + 1 -> l[j]? = some y -> decide (y.name = name) = false) := miss_step (p := fun k : Bnd => decide (k.name = name)) HA.out HD.out hq
  go_wp2_with fail
  go_round
  case rel => exact ⟨k + 1, by omega, by go_num, HS⟩
  case measure => simp [intOf]; omega
 have hkl : k = l.length := by omega
 subst hkl
 have HE : Hid (bFind l name = -1) := by unfold Hid bFind; exact idxI_miss (p := fun k : Bnd => decide (k.name = name)) HA.out
 clear hv
 go_wp2_with fail
 go_ret
 exact ⟨by rw [HE.out]; rfl, rfl⟩
theorem rng_ref (b : Bnd) : rngB b ↔ (b.mn < 0 \/ 20 < b.mn \/ b.mx < -1 \/ 20 < b.mx \/ (0 <= b.mx /\ b.mx < b.mn)) := by
 unfold rngB
 constructor
 ·rintro (h | h | ⟨h1, h2⟩)
  ·exact .inl h
  ·exact .inr (.inl h)
  rcases h2 with h2 | h2
  ·by_cases h3 : b.mx < -1
   ·exact .inr (.inr (.inl h3))
   exact .inr (.inr (.inr (.inr ⟨by omega, h2⟩)))
  exact .inr (.inr (.inr (.inl h2)))
 rintro (h | h | h | h | ⟨h1, h2⟩)
 ·exact .inl h
 ·exact .inr (.inl h)
 ·by_cases h0 : b.mn < 0
  ·exact .inl h0
  exact .inr (.inr ⟨by omega, .inl (by omega)⟩)
 ·exact .inr (.inr ⟨by omega, .inr h⟩)
 exact .inr (.inr ⟨by omega, .inl h2⟩)
set_option maxRecDepth 100000 in
set_option maxHeartbeats 8000000 in
theorem rschema_any (s : Scm) (vk vb : Value) (w : World) (hv : ScmR w vk vb s) :
 Calls Tryz.prog 71 #[.agg #[vk, vb]] w fun e w' => e = .returned (.tuple #[.string (scmE s).1, .int .i64 (scmE s).2]) /\ Below w.heap.size w w' := by
 obtain ⟨Ak, ck, rfl, _, _⟩ := hv.1.form
 obtain ⟨Ab, cb, rfl, hlc, hcm⟩ := hv.2.form
 have hb0 : Below w.heap.size w (w.alloc (.cells #[.slice Ak s.kinds.length ck, .slice Ab s.bonds.length cb] 61)) := (Below.refl _ _).alloc (Nat.le_refl _) _
 obtain ⟨x0, x1⟩ := cell_box2 w (.slice Ak s.kinds.length ck) (.slice Ab s.bonds.length cb) 61
 have HV := Lib.hid (hv.below hb0)
 have hck := rkinds_any s.kinds _ _ (hv.1.below hb0)
 have HE0 : Hid (scmE s = if (checkE s.kinds).2 = 0 then (if 12 < s.bonds.length then (.empty, 4) else bndsE s.kinds [] s.bonds) else checkE s.kinds) := rfl
 have hw0 := hb0.size
 clear hv
 go_enter Tryz.func71, Tryz.ntmps71
 go_wp2_with fail
 generalize w.alloc (.cells #[.slice Ak s.kinds.length ck, .slice Ab s.bonds.length cb] 61) = w0 at *
 refine hck.mono ?_
 clear hck
 rintro e w1 ⟨rfl, hb1⟩
 have hB1 := hb0.trans (hb1.mono hw0)
 have x0 := cell_below hb1 x0
 have x1 := cell_below hb1 x1
 have HV1 := Lib.hid (HV.out.below hb1)
 have hw1 := hB1.size
 generalize hce : checkE s.kinds = ce at *
 clear hce
 by_cases he : ce.2 = 0
 case neg =>
  have HF : Hid (scmE s = ce) := by unfold Hid; rw [HE0.out, if_neg he]
  have heb : (ce.2 != 0) = true := by simpa using he
  clear he HE0
  go_wp2_with fail
  go_ret2
  exact ⟨by rw [HF.out]; rfl, hB1⟩
 have HE1 : Hid (scmE s = if 12 < s.bonds.length then (.empty, 4) else bndsE s.kinds [] s.bonds) := by unfold Hid; rw [HE0.out, if_pos he]
 have heb : (ce.2 != 0) = false := by simpa using he
 clear he HE0
 by_cases h12 : 12 < s.bonds.length
 ·have HF : Hid (scmE s = (.empty, 4)) := by unfold Hid; rw [HE1.out, if_pos h12]
  have h12' : (12 : Int) < (s.bonds.length : Int) := by omega
  clear HE1
  go_wp2_with fail
  go_ret2
  exact ⟨by rw [HF.out]; rfl, hB1⟩
 have HE2 : Hid (scmE s = bndsE s.kinds [] s.bonds) := by unfold Hid; rw [HE1.out, if_neg h12]
 have h12' : (s.bonds.length : Int) <= 12 := by omega
 clear HE1 h12
 go_wp2_with fail
 go_loopw [6] (fun i wr => ∃ k : Nat, k <= s.bonds.length /\ i = .int .i64 k /\ Below w1.heap.size w1 wr /\ Hid (scmE s = bndsE s.kinds (s.bonds.take k) (s.bonds.drop k))) (fun i _ => s.bonds.length - (intOf i).toNat)
 case atStart => exact ⟨0, Nat.zero_le _, rfl, Below.refl _ _, HE2.out⟩
 clear HE2
 obtain ⟨k, hk, rfl, hb, HR⟩ := hrel
 have x0 := cell_below hb x0
 have x1 := cell_below hb x1
 have hbW := hB1.trans (hb.mono hw1)
 by_cases hlt : k < s.bonds.length
 ·obtain ⟨d, hd⟩ : ∃ d, s.bonds[k]? = some d := ⟨_, List.getElem?_eq_getElem hlt⟩
  obtain ⟨gb, o, rfl, hok, q0, q1, q2, q3, q4⟩ := bnd_at (HV1.out.below hb).2 hd
  have hlt' : (k : Int) < (s.bonds.length : Int) := by omega
  have hic : (k : Int) <= (cb : Int) := by omega
  have hk0 : (0 : Int) <= (k : Int) := by omega
  obtain ⟨z0, z1, z2, z3, z4⟩ := cell_box5 wr (.string d.name) (.string d.src) (.string d.dst) (.int .i64 d.mn) (.int .i64 d.mx) 82
  have ha1 : Below wr.heap.size wr (wr.alloc (.cells #[.string d.name, .string d.src, .string d.dst, .int .i64 d.mn, .int .i64 d.mx] 82)) := (Below.refl _ _).alloc (Nat.le_refl _) _
  have hb2 := hb.trans (ha1.mono hb.size)
  have HST := Lib.hid (bndsE_step hd HR.out)
  have HB0 : Hid (bndE s.kinds (s.bonds.take k) d = if nameE d.name = 0 then (if 0 <= bFind (s.bonds.take k) d.name then 7 else if kFind s.kinds d.src < 0 \/ kFind s.kinds d.dst < 0 then 5 else if rngB d then 1 else 0) else nameE d.name) := rfl
  have hrn := fun W => rname_any d.name W hok.1
  have hvt := (HV1.out.below hb2).2.take (k := k) (by omega)
  have x0 := cell_below ha1 x0
  have x1 := cell_below ha1 x1
  clear hd hok HR
  go_upto_region 10 with fail
  generalize wr.alloc (.cells #[.string d.name, .string d.src, .string d.dst, .int .i64 d.mn, .int .i64 d.mx] 82) = w2 at *
  have hBX := hB1.trans (hb2.mono hw1)
  clear q0 q1 q2 q3 q4
  by_cases hn : nameE d.name = 0
  case neg =>
   have HBE : Hid (bndE s.kinds (s.bonds.take k) d = 2) := by unfold Hid; rw [HB0.out, if_neg hn, nameE_two hn]
   have hrn2 := hrn w2
   rw [nameE_two hn] at hrn2
   clear hrn hn HB0 hvt
   go_wp2_with fail
   refine hrn2.mono ?_
   clear hrn2
   rintro e w' ⟨rfl, rfl⟩
   have HE : Hid (scmE s = (d.name, 2)) := by unfold Hid; rw [HST.out, if_neg (by rw [HBE.out]; decide), HBE.out]
   clear HST HBE
   go_wp2_with fail
   go_ret2
   exact ⟨by rw [HE.out]; rfl, hBX⟩
  have hrn2 := hrn w2
  rw [hn] at hrn2
  have HB1 : Hid (bndE s.kinds (s.bonds.take k) d = if 0 <= bFind (s.bonds.take k) d.name then 7 else if kFind s.kinds d.src < 0 \/ kFind s.kinds d.dst < 0 then 5 else if rngB d then 1 else 0) := by unfold Hid; rw [HB0.out, if_pos hn]
  clear hrn hn HB0
  go_wp2_with fail
  refine hrn2.mono ?_
  clear hrn2
  rintro e w' ⟨rfl, rfl⟩
  go_wp2_with fail
  refine wp_mid_k 6 _ rfl rfl (by kernel_rfl) (by kernel_rfl) ?_
  simp only [List.take_succ_cons, List.take_zero, List.drop_succ_cons, List.drop_zero]
  repeat (go_big_quiet_step (fail))
  refine wpQuiet_nil ?_
  intro _ hw'
  obtain ⟨nq, hw''⟩ := hw'
  subst hw''
  intro K hK
  have hbd := below_drewN (Below.refl w2.heap.size w2) nq
  have hkf := rbond_any (s.bonds.take k) d.name _ (w2.drewN nq) (hvt.below hbd)
  clear hvt
  go_wp2_with fail
  refine hkf.mono ?_
  clear hkf
  rintro e w' ⟨rfl, rfl⟩
  generalize hzz : bFind (s.bonds.take k) d.name = z at *
  clear hzz
  refine hK _ _ ?_
  repeat (go_big_quiet_step (fail))
  refine wpQuiet_nil ?_
  intro _ hw'
  obtain ⟨nq2, hw''⟩ := hw'
  subst hw''
  clear hK
  have hbd2 := below_drewN hbd nq2
  generalize (w2.drewN nq).drewN nq2 = w3 at *
  have x0 := cell_below hbd2 x0
  have x1 := cell_below hbd2 x1
  have z0 := cell_below hbd2 z0
  have z1 := cell_below hbd2 z1
  have z2 := cell_below hbd2 z2
  have z3 := cell_below hbd2 z3
  have z4 := cell_below hbd2 z4
  have hb4 := hb2.trans (hbd2.mono hb2.size)
  have hBX := hB1.trans (hb4.mono hw1)
  clear hbd hbd2 hb2
  by_cases hz : 0 <= z
  ·have HBE : Hid (bndE s.kinds (s.bonds.take k) d = 7) := by unfold Hid; rw [HB1.out, if_pos hz]
   clear HB1
   have HE : Hid (scmE s = (d.name, 7)) := by unfold Hid; rw [HST.out, if_neg (by rw [HBE.out]; decide), HBE.out]
   clear HST HBE
   go_wp2_with fail
   go_ret2
   exact ⟨by rw [HE.out]; rfl, hBX⟩
  have hz' : z < 0 := by omega
  have HB2 : Hid (bndE s.kinds (s.bonds.take k) d = if kFind s.kinds d.src < 0 \/ kFind s.kinds d.dst < 0 then 5 else if rngB d then 1 else 0) := by unfold Hid; rw [HB1.out, if_neg hz]
  have hk1 := rkind_any s.kinds d.src _ w3 (HV1.out.below hb4).1
  have hk2 := rkind_any s.kinds d.dst _ w3 (HV1.out.below hb4).1
  clear HB1 hz
  generalize kFind s.kinds d.src = k1 at *
  generalize kFind s.kinds d.dst = k2 at *
  go_wp2_with fail
  refine hk1.mono ?_
  clear hk1
  rintro e w' ⟨rfl, rfl⟩
  by_cases hs : k1 < 0
  ·have HBE : Hid (bndE s.kinds (s.bonds.take k) d = 5) := by unfold Hid; rw [HB2.out, if_pos (.inl hs)]
   clear HB2 hk2
   have HE : Hid (scmE s = (d.name, 5)) := by unfold Hid; rw [HST.out, if_neg (by rw [HBE.out]; decide), HBE.out]
   clear HST HBE
   go_wp2_with fail
   go_ret2
   exact ⟨by rw [HE.out]; rfl, hBX⟩
  have hs' : 0 <= k1 := by omega
  have hsd : decide (k1 < 0) = false := decide_eq_false hs
  go_wp2_with fail
  refine hk2.mono ?_
  clear hk2
  rintro e w' ⟨rfl, rfl⟩
  by_cases ht : k2 < 0
  ·have HBE : Hid (bndE s.kinds (s.bonds.take k) d = 5) := by unfold Hid; rw [HB2.out, if_pos (.inr ht)]
   clear HB2 hs
   have HE : Hid (scmE s = (d.name, 5)) := by unfold Hid; rw [HST.out, if_neg (by rw [HBE.out]; decide), HBE.out]
   clear HST HBE
   go_wp2_with fail
   go_ret2
   exact ⟨by rw [HE.out]; rfl, hBX⟩
  have ht' : 0 <= k2 := by omega
  have HB3 : Hid (bndE s.kinds (s.bonds.take k) d = if rngB d then 1 else 0) := by unfold Hid; rw [HB2.out, if_neg (by omega)]
  have HRNG : True := trivial
  clear HB2 hs ht hsd
  by_cases r1 : d.mn < 0
  ·have HBE : Hid (bndE s.kinds (s.bonds.take k) d = 1) := by unfold Hid; rw [HB3.out, if_pos ((rng_ref d).2 (.inl r1))]
   clear HB3 HRNG
   have HE : Hid (scmE s = (d.name, 1)) := by unfold Hid; rw [HST.out, if_neg (by rw [HBE.out]; decide), HBE.out]
   clear HST HBE
   go_wp2_with fail
   go_ret2
   exact ⟨by rw [HE.out]; rfl, hBX⟩
  have r1' : 0 <= d.mn := by omega
  by_cases r2 : 20 < d.mn
  ·clear r1
   have HBE : Hid (bndE s.kinds (s.bonds.take k) d = 1) := by unfold Hid; rw [HB3.out, if_pos ((rng_ref d).2 (.inr (.inl r2)))]
   clear HB3 HRNG
   have HE : Hid (scmE s = (d.name, 1)) := by unfold Hid; rw [HST.out, if_neg (by rw [HBE.out]; decide), HBE.out]
   clear HST HBE
   go_wp2_with fail
   go_ret2
   exact ⟨by rw [HE.out]; rfl, hBX⟩
  have r2' : d.mn <= 20 := by omega
  by_cases r3 : d.mx < -1
  ·clear r1 r2
   have HBE : Hid (bndE s.kinds (s.bonds.take k) d = 1) := by unfold Hid; rw [HB3.out, if_pos ((rng_ref d).2 (.inr (.inr (.inl r3))))]
   clear HB3 HRNG
   have HE : Hid (scmE s = (d.name, 1)) := by unfold Hid; rw [HST.out, if_neg (by rw [HBE.out]; decide), HBE.out]
   clear HST HBE
   go_wp2_with fail
   go_ret2
   exact ⟨by rw [HE.out]; rfl, hBX⟩
  have r3' : -1 <= d.mx := by omega
  by_cases r4 : 20 < d.mx
  ·clear r1 r2 r3
   have HBE : Hid (bndE s.kinds (s.bonds.take k) d = 1) := by unfold Hid; rw [HB3.out, if_pos ((rng_ref d).2 (.inr (.inr (.inr (.inl r4)))))]
   clear HB3 HRNG
   have HE : Hid (scmE s = (d.name, 1)) := by unfold Hid; rw [HST.out, if_neg (by rw [HBE.out]; decide), HBE.out]
   clear HST HBE
   go_wp2_with fail
   go_ret2
   exact ⟨by rw [HE.out]; rfl, hBX⟩
  have r4' : d.mx <= 20 := by omega
  by_cases r5 : 0 <= d.mx
  ·by_cases r6 : d.mx < d.mn
   ·clear r1 r2 r3 r4
    have HBE : Hid (bndE s.kinds (s.bonds.take k) d = 1) := by unfold Hid; rw [HB3.out, if_pos ((rng_ref d).2 (.inr (.inr (.inr (.inr ⟨r5, r6⟩)))))]
    clear HB3 HRNG
    have HE : Hid (scmE s = (d.name, 1)) := by unfold Hid; rw [HST.out, if_neg (by rw [HBE.out]; decide), HBE.out]
    clear HST HBE
    go_wp2_with fail
    go_ret2
    exact ⟨by rw [HE.out]; rfl, hBX⟩
   have r6' : d.mn <= d.mx := by omega
   clear r1 r2 r3 r4 r6
   have HN : Hid (scmE s = bndsE s.kinds (s.bonds.take (k + 1)) (s.bonds.drop (k + 1))) := by
    have h0 : bndE s.kinds (s.bonds.take k) d = 0 := by rw [HB3.out, if_neg (fun h => absurd ((rng_ref d).1 h) (by omega))]
    unfold Hid; rw [HST.out, if_pos h0]
   clear HST HB3 HRNG
   go_wp2_with fail
   go_roundw
   case rel => exact ⟨k + 1, by omega, by go_num, hb4, HN⟩
   case measure => simp [intOf]; omega
  have r5' : d.mx < 0 := by omega
  clear r1 r2 r3 r4 r5
  have HN : Hid (scmE s = bndsE s.kinds (s.bonds.take (k + 1)) (s.bonds.drop (k + 1))) := by
   have h0 : bndE s.kinds (s.bonds.take k) d = 0 := by rw [HB3.out, if_neg (fun h => absurd ((rng_ref d).1 h) (by omega))]
   unfold Hid; rw [HST.out, if_pos h0]
  clear HST HB3 HRNG
  go_wp2_with fail
  go_roundw
  case rel => exact ⟨k + 1, by omega, by go_num, hb4, HN⟩
  case measure => simp [intOf]; omega
 obtain rfl : k = s.bonds.length := by omega
 have HE : Hid (scmE s = (.empty, 0)) := by unfold Hid; rw [HR.out, List.drop_length]; rfl
 clear HR
 go_wp2_with fail
 go_ret2
 exact ⟨by rw [HE.out]; rfl, hbW⟩
theorem rright_any (s : Scm) (vk vb : Value) (w : World) (hv : ScmR w vk vb s) : Calls Tryz.prog 27 #[.agg #[vk, vb]] w fun e w' => e = .returned (.int .i64 (scmE s).2) /\ Below w.heap.size w w' := by
 have hb0 : Below w.heap.size w (w.alloc (.cells #[vk, vb] 61)) := (Below.refl _ _).alloc (Nat.le_refl _) _
 have h1 := rschema_any s vk vb _ (hv.below hb0)
 obtain ⟨z, hz⟩ : ∃ z, z = scmE s := ⟨_, rfl⟩
 rw [<- hz] at h1
 have HZ := Lib.hid hz
 obtain ⟨A, c, rfl, _, _⟩ := hv.1.form
 obtain ⟨A', c', rfl, _, _⟩ := hv.2.form
 clear hv hz
 go_enter Tryz.func27, Tryz.ntmps27
 go_wp2_with fail
 refine h1.mono ?_
 clear h1
 rintro e w2 ⟨rfl, hb2⟩
 go_wp2_with fail
 go_ret
 exact ⟨by rw [<- HZ.out]; rfl, hb0.trans (hb2.mono (by simp))⟩
set_option maxHeartbeats 1000000 in
theorem rat_any (l : List Prp) (name : ByteArray) (v : Value) (w : World) (hv : Sl prpL w v l) : Calls Tryz.prog 55 #[v, .string name] w fun e w' => e = .returned (.int .i64 (atI l name)) /\ w = w' := by
 obtain ⟨A, c, rfl, hlc, hcm⟩ := hv.form
 unfold maxLen at hcm
 go_enter Tryz.func55, Tryz.ntmps55
 go_wp2_with fail
 go_loop [5] (fun i => ∃ k : Nat, k <= l.length /\ i = .int .i64 k /\ Hid (∀ j x, j < k -> l[j]? = some x -> decide (x.name = name) = false)) (fun i => l.length - (intOf i).toNat)
 case atStart => exact ⟨0, Nat.zero_le _, rfl, fun j x hj => absurd hj (Nat.not_lt_zero _)⟩
 obtain ⟨k, hk, rfl, HA⟩ := hrel
 by_cases hlt : k < l.length
 ·obtain ⟨d, hd⟩ : ∃ d, l[k]? = some d := ⟨_, List.getElem?_eq_getElem hlt⟩
  obtain ⟨b, o, rfl, _, c0, _, _, _⟩ := prp_at hv hd
  have HD : Hid (l[k]? = some d) := hd
  clear hd hv
  by_cases hq0 : d.name = name
  ·have hq : decide (d.name = name) = true := decide_eq_true hq0
   have HE : Hid (atI l name = k) := by unfold Hid atI; exact idxI_hit (p := fun k : Prp => decide (k.name = name)) HA.out HD.out hq
   clear hq
   subst hq0
   go_wp2_with fail
   go_ret
   exact ⟨by rw [HE.out]; rfl, rfl⟩
  have hq : decide (d.name = name) = false := decide_eq_false hq0
  have hqb : (d.name.toList == name.toList) = false := by rw [bytes_beq]; exact hq
  have HS : Hid (∀ j y, j < k + 1 -> l[j]? = some y -> decide (y.name = name) = false) := miss_step (p := fun k : Prp => decide (k.name = name)) HA.out HD.out hq
  go_wp2_with fail
  go_round
  case rel => exact ⟨k + 1, by omega, by go_num, HS⟩
  case measure => simp [intOf]; omega
 have hkl : k = l.length := by omega
 subst hkl
 have HE : Hid (atI l name = -1) := by unfold Hid atI; exact idxI_miss (p := fun k : Prp => decide (k.name = name)) HA.out
 clear hv
 go_wp2_with fail
 go_ret
 exact ⟨by rw [HE.out]; rfl, rfl⟩
set_option maxHeartbeats 1000000 in
theorem rready_any (s : Scm) (g : Grf) (vk vb vn vt : Value) (w : World) (hs : ScmR w vk vb s) (hg : GrfR w vn vt g) :
 Calls Tryz.prog 18 #[.agg #[vk, vb], .agg #[vn, vt]] w fun e w' => e = .returned (.int .i64 (readySG s g)) /\ Below w.heap.size w w' := by
 obtain ⟨A1, c1, rfl, _, _⟩ := hs.1.form
 obtain ⟨A2, c2, rfl, _, _⟩ := hs.2.form
 obtain ⟨A3, c3, rfl, _, _⟩ := hg.1.form
 obtain ⟨A4, c4, rfl, _, _⟩ := hg.2.form
 obtain ⟨W0, hW0⟩ : ∃ W0, W0 = (w.alloc (.cells #[.slice A1 s.kinds.length c1, .slice A2 s.bonds.length c2] 61)).alloc (.cells #[.slice A3 g.nodes.length c3, .slice A4 g.ties.length c4] 25) := ⟨_, rfl⟩
 have hb0 : Below w.heap.size w W0 := by rw [hW0]; exact ((Below.refl _ _).alloc (Nat.le_refl _) _).alloc (by simp) _
 have g0 : W0.heap[w.heap.size]? = some (.cells #[.slice A1 s.kinds.length c1, .slice A2 s.bonds.length c2] 61 (0, 0)) := by
  rw [hW0, Below.heap_alloc _ _ _ (by simp)]; exact heap_alloc_new _ _
 have g1 : W0.heap[w.heap.size + 1]? = some (.cells #[.slice A3 g.nodes.length c3, .slice A4 g.ties.length c4] 25 (0, 0)) := by
  have := heap_alloc_new (w.alloc (.cells #[.slice A1 s.kinds.length c1, .slice A2 s.bonds.length c2] 61)) (.cells #[.slice A3 g.nodes.length c3, .slice A4 g.ties.length c4] 25); rw [hW0]; simpa using this
 have hW0' := hW0.symm
 have HG0 := Lib.hid g0
 have HG1 := Lib.hid g1
 have x0 := block_cell g0 0
 have x1 := block_cell g0 1
 have y0 := block_cell g1 0
 have y1 := block_cell g1 1
 have hw0 := hb0.size
 have HG := Lib.hid (hg.below hb0)
 have hx := rright_any s _ _ W0 (hs.below hb0)
 have HGR : Hid (∀ W, Below W0.heap.size W0 W -> Calls Tryz.prog 7 #[.agg #[.slice A3 g.nodes.length c3, .slice A4 g.ties.length c4]] W fun e w' => e = .returned (.int .i64 (grfE g)) /\ Below W.heap.size W w') := fun W h => rgraph_any g _ _ W (HG.out.below h)
 have HR : Hid (readySG s g = if (scmE s).2 = 0 then grfE g else (scmE s).2) := rfl
 generalize readySG s g = z at *
 generalize (scmE s).2 = a at *
 generalize grfE g = b at *
 clear hs hg g0 g1 hW0 HG
 have Y0 := Lib.hid y0
 have Y1 := Lib.hid y1
 go_enter Tryz.func18, Tryz.ntmps18
 go_wp2_with fail
 clear hW0'
 refine hx.mono ?_
 clear hx x0 x1
 rintro e W1 ⟨rfl, hb1⟩
 by_cases ha : a = 0
 ·have hab : (a == 0) = true := by simpa using ha
  have HE : Hid (z = b) := by unfold Hid; rw [HR.out, if_pos ha]
  have y0 := cell_below hb1 Y0.out
  have y1 := cell_below hb1 Y1.out
  have hx := HGR.out W1 hb1
  clear ha
  go_wp2_with fail
  refine hx.mono ?_
  clear hx y0 y1
  rintro e W2 ⟨rfl, hb2⟩
  go_wp2_with fail
  go_ret
  exact ⟨by rw [HE.out]; rfl, hb0.trans ((hb1.trans (hb2.mono hb1.size)).mono hw0)⟩
 have hab : (a == 0) = false := by simpa using ha
 have HE : Hid (z = a) := by unfold Hid; rw [HR.out, if_neg ha]
 clear ha
 go_wp2_with fail
 go_ret
 exact ⟨by rw [HE.out]; rfl, hb0.trans (hb1.mono hw0)⟩
end Go.Proofs.YtngbbefpphinjaaGreatDoor
