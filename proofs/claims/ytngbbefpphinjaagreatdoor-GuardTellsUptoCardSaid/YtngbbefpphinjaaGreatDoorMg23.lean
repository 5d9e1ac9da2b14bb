/- Parts: RdC, DbR. -/
import Derived.Test.YtngbbefpphinjaaGreatDoorMg21
import Derived.Test.YtngbbefpphinjaaGreatDoorMg16
/- Contract of the reference: kinref1.Do at an op that sets a property, and at one that takes one away. -/
namespace Go.Proofs.YtngbbefpphinjaaGreatDoor
open Go Go.RowKit
theorem grf_rec {g : Grf} (h : grfE g = 0) {n : Nod} {k : Nat} (hk : g.nodes[k]? = some n) : recE n.props = 0 := by
 have hn := List.mem_of_getElem? hk
 have h5 := ((grf_ok h).2.2.2 n hn).2
 unfold nodE at h5
 split at h5
 ·cases h5
 split at h5
 ·exact h5
 rename_i h6; exact absurd h5 h6
theorem set_parts (g : Grf) (node : Nod) (prop : Prp) (tie : Tie) (h : grfE g = 0) : (fhas g.nodes node.id = false -> doE g ⟨3, node, prop, tie⟩ = 5 /\ doG g ⟨3, node, prop, tie⟩ = ⟨[], []⟩) /\
 (∀ n, g.nodes[fpos g.nodes node.id]? = some n -> fhas g.nodes node.id = true -> (setE n.props prop ≠ 0 -> doE g ⟨3, node, prop, tie⟩ = setE n.props prop /\ doG g ⟨3, node, prop, tie⟩ = ⟨[], []⟩) /\
   (setE n.props prop = 0 -> doE g ⟨3, node, prop, tie⟩ = 0 /\ doG g ⟨3, node, prop, tie⟩ = ⟨g.nodes.set (fpos g.nodes node.id) ⟨n.id, n.kind, setR n.props prop⟩, g.ties⟩)) := by
 obtain ⟨d1, d2, d3⟩ := doE_right h ⟨3, node, prop, tie⟩
 have e : opE g ⟨3, node, prop, tie⟩ = (if fhas g.nodes node.id then setE (recAt g.nodes node.id) prop else 5) := by
  unfold opE; simp
 have eG : opG g ⟨3, node, prop, tie⟩ = ⟨putRec g.nodes (fpos g.nodes node.id) (setR (recAt g.nodes node.id) prop), g.ties⟩ := by
  unfold opG; simp
 refine ⟨fun hf => ?_, fun n hn hf => ?_⟩
 ·have h1 : opE g ⟨3, node, prop, tie⟩ = 5 := by rw [e, if_neg (by rw [hf]; simp)]
  exact ⟨by rw [d1, h1], d2 (by rw [h1]; omega)⟩
 have hr : recAt g.nodes node.id = n.props := by unfold recAt; rw [hn]
 have hp : ∀ r, putRec g.nodes (fpos g.nodes node.id) r = g.nodes.set (fpos g.nodes node.id) ⟨n.id, n.kind, r⟩ := fun r => by unfold putRec; rw [hn]
 rw [hr, if_pos hf] at e
 rw [hr, hp] at eG
 exact ⟨fun h1 => ⟨by rw [d1, e], d2 (by rw [e]; exact h1)⟩, fun h1 => ⟨by rw [d1, e, h1], by rw [d3 (by rw [e, h1]), eG]⟩⟩
theorem unset_parts (g : Grf) (node : Nod) (prop : Prp) (tie : Tie) (h : grfE g = 0) : (fhas g.nodes node.id = false -> doE g ⟨4, node, prop, tie⟩ = 5 /\ doG g ⟨4, node, prop, tie⟩ = ⟨[], []⟩) /\
 (∀ n, g.nodes[fpos g.nodes node.id]? = some n -> fhas g.nodes node.id = true -> (unsetE n.props prop.name ≠ 0 -> doE g ⟨4, node, prop, tie⟩ = unsetE n.props prop.name /\ doG g ⟨4, node, prop, tie⟩ = ⟨[], []⟩) /\
   (unsetE n.props prop.name = 0 -> doE g ⟨4, node, prop, tie⟩ = 0 /\ doG g ⟨4, node, prop, tie⟩ = ⟨g.nodes.set (fpos g.nodes node.id) ⟨n.id, n.kind, unsetR n.props prop.name⟩, g.ties⟩)) := by
 obtain ⟨d1, d2, d3⟩ := doE_right h ⟨4, node, prop, tie⟩
 have e : opE g ⟨4, node, prop, tie⟩ = (if fhas g.nodes node.id then unsetE (recAt g.nodes node.id) prop.name else 5) := by
  unfold opE; simp
 have eG : opG g ⟨4, node, prop, tie⟩ = ⟨putRec g.nodes (fpos g.nodes node.id) (unsetR (recAt g.nodes node.id) prop.name), g.ties⟩ := by
  unfold opG; simp
 refine ⟨fun hf => ?_, fun n hn hf => ?_⟩
 ·have h1 : opE g ⟨4, node, prop, tie⟩ = 5 := by rw [e, if_neg (by rw [hf]; simp)]
  exact ⟨by rw [d1, h1], d2 (by rw [h1]; omega)⟩
 have hr : recAt g.nodes node.id = n.props := by unfold recAt; rw [hn]
 have hp : ∀ r, putRec g.nodes (fpos g.nodes node.id) r = g.nodes.set (fpos g.nodes node.id) ⟨n.id, n.kind, r⟩ := fun r => by unfold putRec; rw [hn]
 rw [hr, if_pos hf] at e
 rw [hr, hp] at eG
 exact ⟨fun h1 => ⟨by rw [d1, e], d2 (by rw [e]; exact h1)⟩, fun h1 => ⟨by rw [d1, e, h1], by rw [d3 (by rw [e, h1]), eG]⟩⟩
set_option maxRecDepth 100000 in
set_option maxHeartbeats 32000000 in
theorem rdo_set (g : Grf) (node : Nod) (prop : Prp) (tie : Tie) (vn vt : Value) (Ar : Option Addr) (cr : Nat) (w0 w : World) (hbw0 : Below w0.heap.size w0 w) (hgs : GrfS w0 w vn vt g) (ho : OprR w0 (.slice Ar node.props.length cr) ⟨3, node, prop, tie⟩) (h0 : grfE g = 0) :
 Calls Tryz.prog 8 #[.agg #[vn, vt], .agg #[.int .i64 3, .int .i64 node.id, .string node.kind, .slice Ar node.props.length cr, .string prop.name, .int .i64 prop.v.ty, .int .i64 prop.v.n, .string prop.v.s, .string tie.bond, .int .i64 tie.src, .int .i64 tie.dst]] w (RetGI w0 (doG g ⟨3, node, prop, tie⟩) (doE g ⟨3, node, prop, tie⟩) w) := by
 have hg := hgs.r hbw0
 have HGS := Lib.hid hgs
 have HBW := Lib.hid hbw0
 have hobase := ho
 have ho := hobase.below hbw0
 have HOB := Lib.hid hobase
 clear hobase hgs hbw0
 obtain ⟨A1, c1, rfl, _, _⟩ := hg.1.form
 obtain ⟨A2, c2, rfl, _, _⟩ := hg.2.form
 obtain ⟨W0, hW0⟩ : ∃ W0, W0 = (((w.alloc (.cells #[.slice A1 g.nodes.length c1, .slice A2 g.ties.length c2] 25)).alloc (.cells #[.int .i64 3, .int .i64 node.id, .string node.kind, .slice Ar node.props.length cr, .string prop.name, .int .i64 prop.v.ty, .int .i64 prop.v.n, .string prop.v.s, .string tie.bond, .int .i64 tie.src, .int .i64 tie.dst] 37)).alloc (.cells #[.slice none 0 0, .slice none 0 0] 25)).alloc (.cells #[.slice none 0 0, .slice none 0 0] 25) := ⟨_, rfl⟩
 have hb0 : Below w.heap.size w W0 := by rw [hW0]; exact ((((Below.refl _ _).alloc (Nat.le_refl _) _).alloc (by simp only [World.size_alloc]; omega) _).alloc (by simp only [World.size_alloc]; omega) _).alloc (by simp only [World.size_alloc]; omega) _
 have g0 : W0.heap[w.heap.size]? = some (.cells #[.slice A1 g.nodes.length c1, .slice A2 g.ties.length c2] 25 (0, 0)) := by
  rw [hW0, Below.heap_alloc _ _ _ (by simp only [World.size_alloc]; omega), Below.heap_alloc _ _ _ (by simp only [World.size_alloc]; omega), Below.heap_alloc _ _ _ (by simp only [World.size_alloc]; omega)]; exact heap_alloc_new _ _
 have g1 : W0.heap[w.heap.size + 1]? = some (.cells #[.int .i64 3, .int .i64 node.id, .string node.kind, .slice Ar node.props.length cr, .string prop.name, .int .i64 prop.v.ty, .int .i64 prop.v.n, .string prop.v.s, .string tie.bond, .int .i64 tie.src, .int .i64 tie.dst] 37 (0, 0)) := by
  have := heap_alloc_new (w.alloc (.cells #[.slice A1 g.nodes.length c1, .slice A2 g.ties.length c2] 25)) (.cells #[.int .i64 3, .int .i64 node.id, .string node.kind, .slice Ar node.props.length cr, .string prop.name, .int .i64 prop.v.ty, .int .i64 prop.v.n, .string prop.v.s, .string tie.bond, .int .i64 tie.src, .int .i64 tie.dst] 37); rw [hW0, Below.heap_alloc _ _ _ (by simp only [World.size_alloc]; omega), Below.heap_alloc _ _ _ (by simp only [World.size_alloc]; omega)]; simpa using this
 have g2 : W0.heap[w.heap.size + 1 + 1]? = some (.cells #[.slice none 0 0, .slice none 0 0] 25 (0, 0)) := by
  have := heap_alloc_new ((w.alloc (.cells #[.slice A1 g.nodes.length c1, .slice A2 g.ties.length c2] 25)).alloc (.cells #[.int .i64 3, .int .i64 node.id, .string node.kind, .slice Ar node.props.length cr, .string prop.name, .int .i64 prop.v.ty, .int .i64 prop.v.n, .string prop.v.s, .string tie.bond, .int .i64 tie.src, .int .i64 tie.dst] 37)) (.cells #[.slice none 0 0, .slice none 0 0] 25); rw [hW0, Below.heap_alloc _ _ _ (by simp only [World.size_alloc]; omega)]; simpa using this
 have g3 : W0.heap[w.heap.size + 1 + 1 + 1]? = some (.cells #[.slice none 0 0, .slice none 0 0] 25 (0, 0)) := by
  have := heap_alloc_new (((w.alloc (.cells #[.slice A1 g.nodes.length c1, .slice A2 g.ties.length c2] 25)).alloc (.cells #[.int .i64 3, .int .i64 node.id, .string node.kind, .slice Ar node.props.length cr, .string prop.name, .int .i64 prop.v.ty, .int .i64 prop.v.n, .string prop.v.s, .string tie.bond, .int .i64 tie.src, .int .i64 tie.dst] 37)).alloc (.cells #[.slice none 0 0, .slice none 0 0] 25)) (.cells #[.slice none 0 0, .slice none 0 0] 25); rw [hW0]; simpa using this
 have hW0' := hW0.symm
 have hw0 := hb0.size
 obtain ⟨b1, b2⟩ := set_parts g node prop tie h0
 have P1 := Lib.hid b1
 have P2 := Lib.hid b2
 obtain ⟨k1, k2, k3, k4⟩ := grf_ok h0
 have hx := rgfind_any g _ _ node.id W0 (hg.below hb0)
 rw [idx_nod k3] at hx
 have x0 := block_cell g0 0
 have x1 := block_cell g0 1
 have o0 := block_cell g1 0
 have o1 := block_cell g1 1
 have o2 := block_cell g1 2
 have o3 := block_cell g1 3
 have G0 := Lib.hid g0
 have G1 := Lib.hid g1
 have G2 := Lib.hid g2
 have G3 := Lib.hid g3
 have HGW := Lib.hid hg
 have HOW := Lib.hid ho
 have HG := Lib.hid (hg.below hb0)
 have HO := Lib.hid (ho.below hb0)
 have HFHL : Hid (fhas g.nodes node.id = true -> fpos g.nodes node.id < g.nodes.length) := fun h => by obtain ⟨n, hn⟩ := fhas_some' h; exact (List.getElem?_eq_some_iff.1 hn).1
 generalize hfz : (if fhas g.nodes node.id = true then (fpos g.nodes node.id : Int) else -1) = fz at *
 have HFZ := Lib.hid hfz
 clear hg ho g0 g1 g2 g3 hW0 hfz
 go_enter Tryz.func8, Tryz.ntmps8
 go_wp2_with fail
 clear hW0'
 refine hx.mono ?_
 clear hx
 rintro e w1 ⟨rfl, hb1⟩
 have hB1 := hb0.trans (hb1.mono hw0)
 have m0 := (hb1.block _ (geB G0.out)).trans G0.out
 have m1 := (hb1.block _ (geB G1.out)).trans G1.out
 have m2 := (hb1.block _ (geB G2.out)).trans G2.out
 have m3 := (hb1.block _ (geB G3.out)).trans G3.out
 have x0 := block_cell m0 0
 have x1 := block_cell m0 1
 have o0 := block_cell m1 0
 have o1 := block_cell m1 1
 clear m0
 generalize doE g ⟨3, node, prop, tie⟩ = de at *
 generalize doG g ⟨3, node, prop, tie⟩ = dg at *
 have HK1 := Lib.hid k1
 clear b1 b2 k3 k4
 cases hf : fhas g.nodes node.id with
 | false =>
  have HE := Lib.hid (P1.out hf)
  have hz : fz = -1 := by rw [<- HFZ.out, hf]; rfl
  subst hz
  have hB2 := hB1
  clear hf HFZ P1 P2 HFHL
  have a0 := block_free m2 0
  have a1 := block_free m2 1
  have a2 := block_cell m2 0
  have a3 := block_cell m2 1
  have y0 := block_cell m3 0
  have y1 := block_cell m3 1
  have s2 := setCell_block (setCell_block m2 0 (.slice none 0 0)) 1 (.slice none 0 0)
  have hbX := (hB2.setCell (p := ⟨w.heap.size + 1 + 1, 0, none⟩) (by show w.heap.size <= w.heap.size + 1 + 1; omega) (.slice none 0 0)).setCell (p := ⟨w.heap.size + 1 + 1, 1, none⟩) (by show w.heap.size <= w.heap.size + 1 + 1; omega) (.slice none 0 0)
  have HS2 := Lib.hid s2
  clear s2 m2 m3
  go_wp2_with fail
  have k2' := block_cell HS2.out 0
  have k3' := block_cell HS2.out 1
  exact bodyPost_ret (v := .tuple #[.agg #[.slice none 0 0, .slice none 0 0], .int .i64 (5)]) (by simp [results, Tryz.results8, go_sem, k2', k3']) rfl
   ⟨_, _, by rw [HE.out.1], by rw [HE.out.2]; exact ⟨SlS.nil _ _, SlS.nil _ _⟩, hbX⟩
 | true =>
  obtain ⟨n, hn⟩ := fhas_some' hf
  have HE2 := Lib.hid (P2.out n hn hf)
  have hz : fz = (fpos g.nodes node.id : Int) := by rw [<- HFZ.out, hf]; rfl
  subst hz
  have hkl := HFHL.out hf
  obtain ⟨Arow, crow, xs, hvrow, _, _, hxall⟩ := HGS.out.1
  cases hvrow
  have hxs0 := hxall w (Stay.refl HBW.out)
  have HXR := Lib.hid hxs0.1
  have HXC := Lib.hid hxs0.2
  have HXS : Hid (∀ W', Stay w0 w W' -> Row nodL W' _ xs) := fun W' hW => (hxall W' hW).1
  clear hxs0 hxall
  obtain ⟨n0, ni, nz, nz1, nz2⟩ := info_parts nodT_info
  obtain ⟨B, hBe⟩ : ∃ B, B = W0.heap.size := ⟨_, rfl⟩
  have HRN : Hid (recE n.props = 0) := grf_rec h0 hn
  have HNN := Lib.hid hn
  have hr3 : RdS w W0 (w.heap.size + 1 + 1 + 1) w1 (.slice none 0 0) (.slice none 0 0) := ⟨(Kp.refl _ _).below hb1, hB1, m3, by omega⟩
  have HR0 := Lib.hid hr3
  have y0 := block_cell m3 0
  have y1 := block_cell m3 1
  obtain ⟨gb, oo, hA, u, hid, hsm, hus, q0, q1, q2⟩ := nod_at (HG.out.below hb1).1 hn
  subst hA
  obtain ⟨Au, cu, rfl, _, _⟩ := hus.form
  have HUS := Lib.hid hus
  have HIS : Hid (I64 n.id /\ Sm n.kind) := ⟨hid, hsm⟩
  clear m2 m3 m1 hf HFZ P1 P2 HFHL hr3 hn hus hid hsm h0
  generalize fpos g.nodes node.id = k at *
  have hk0 : ¬ (k : Int) < 0 := by omega
  have hk1 : (0 : Int) <= (k : Int) := by omega
  have hkc2 : (k : Int) < (g.nodes.length : Int) := by omega
  go_upto_region 36 with fail
  have hal : Below w1.heap.size w1 (w1.alloc (.cells #[.int .i64 n.id, .string n.kind, .slice Au n.props.length cu] 29)) := (Below.refl _ _).alloc (Nat.le_refl _) _
  have n3 := heap_alloc_new w1 (.cells #[.int .i64 n.id, .string n.kind, .slice Au n.props.length cu] 29)
  have HR3 := Lib.hid (HR0.out.below hal)
  have HUS3 := Lib.hid (HUS.out.below hal)
  have hnb1 : W0.heap.size <= w1.heap.size := HR0.out.k.s
  have hnb2 : w1.heap.size ≠ w.heap.size + 1 + 1 + 1 := fun e => by
   have h1 := (geB HR0.out.q)
   omega
  have HNB : Hid (W0.heap.size <= w1.heap.size /\ w1.heap.size ≠ w.heap.size + 1 + 1 + 1) := ⟨hnb1, hnb2⟩
  clear hnb1 hnb2 hal x0 x1 o0 o1 y0 y1 q0 q1 q2 hb1 hB1 HR0 HUS
  obtain ⟨nb, hnb⟩ : ∃ nb, nb = w1.heap.size := ⟨_, rfl⟩
  rw [<- hnb] at n3 HNB
  rw [<- hnb]
  clear hnb
  generalize w1.alloc (.cells #[.int .i64 n.id, .string n.kind, .slice Au n.props.length cu] 29) = w3 at *
  have z2 := block_cell n3 2
  have q1 := HR3.out.old G1.out (by omega)
  have o0 := block_cell q1 0
  have o4 := block_cell q1 4
  have o5 := block_cell q1 5
  have o6 := block_cell q1 6
  have o7 := block_cell q1 7
  have hx := rset_any n.props prop (.slice Au n.props.length cu) w3 HUS3.out HO.out.p HRN.out
  have HN3 := Lib.hid n3
  clear n3 q1
  go_wp2_with fail
  refine hx.mono ?_
  clear hx
  rintro e w4 ⟨vr, rfl, hvr, hb4⟩
  have HR4 := Lib.hid (HR3.out.below hb4)
  have HN4 := Lib.hid ((hb4.block _ (geB HN3.out)).trans HN3.out)
  clear o0 o4 o5 o6 o7 z2
  have q1 := HR4.out.old G1.out (by omega)
  have o0 := block_cell q1 0
  have o4 := block_cell q1 4
  have z2 := block_cell HN4.out 2
  have y0 := block_cell HR4.out.q 0
  have y1 := block_cell HR4.out.q 1
  clear q1
  obtain ⟨Ar2, cr2, hvq, _, _⟩ := hvr.1.form
  subst hvq
  generalize setE n.props prop = se at *
  generalize setR n.props prop = rr at *
  by_cases hse : se = 0
  case neg =>
   have hsb : (se != 0) = true := by simpa using hse
   have HE := Lib.hid (HE2.out.1 hse)
   have m2 := HR4.out.old G2.out (by omega)
   have m3 := HR4.out.q
   have hB2 := HR4.out.b
   clear hse HE2 hvr hb4
   have a0 := block_free m2 0
   have a1 := block_free m2 1
   have a2 := block_cell m2 0
   have a3 := block_cell m2 1
   have y0 := block_cell m3 0
   have y1 := block_cell m3 1
   have s2 := setCell_block (setCell_block m2 0 (.slice none 0 0)) 1 (.slice none 0 0)
   have hbX := (hB2.setCell (p := ⟨w.heap.size + 1 + 1, 0, none⟩) (by show w.heap.size <= w.heap.size + 1 + 1; omega) (.slice none 0 0)).setCell (p := ⟨w.heap.size + 1 + 1, 1, none⟩) (by show w.heap.size <= w.heap.size + 1 + 1; omega) (.slice none 0 0)
   have HS2 := Lib.hid s2
   clear s2 m2 m3
   go_wp2_with fail
   have k2' := block_cell HS2.out 0
   have k3' := block_cell HS2.out 1
   exact bodyPost_ret (v := .tuple #[.agg #[.slice none 0 0, .slice none 0 0], .int .i64 (se)]) (by simp [results, Tryz.results8, go_sem, k2', k3']) rfl
    ⟨_, _, by rw [HE.out.1], by rw [HE.out.2]; exact ⟨SlS.nil _ _, SlS.nil _ _⟩, hbX⟩
  have HE := Lib.hid (HE2.out.2 hse)
  subst hse
  have HVR := Lib.hid hvr
  clear HE2 hvr hb4
  have zf := block_free HN4.out 2
  go_upto_region 46 with fail
  have HR5 := Lib.hid (HR4.out.cellAt (p := ⟨nb, 2, none⟩) HNB.out.1 HNB.out.2 hw0 (.slice Ar2 rr.length cr2))
  have HN5 := Lib.hid (setCell_block HN4.out 2 (.slice Ar2 rr.length cr2))
  have hvr5 := (HVR.out.1).same (Same.setCell (p := ⟨nb, 2, none⟩) HN4.out (T := 33) (by decide) (.slice Ar2 rr.length cr2))
  have HB5 : Hid (w4.heap.size <= (w4.setCell ⟨nb, 2, none⟩ (.slice Ar2 rr.length cr2)).heap.size) := by unfold Hid; simp [World.setCell]
  clear z2 zf y0 y1 o0 o4
  generalize w4.setCell ⟨nb, 2, none⟩ (.slice Ar2 rr.length cr2) = w5 at *
  have HVO := HVR.out.2
  have HV5 := Lib.hid hvr5
  clear hvr5 HR4 HN4 HVR
  have q0 := HR5.out.old G0.out (by omega)
  have x0 := block_cell q0 0
  have y0 := block_cell HR5.out.q 0
  have HR := HR5
  have HOA : Hid (Own w5 B 29 3 (.slice none 0 0) 0 []) := Own.nil _ _ _ _
  have HBZ : Hid (B <= w5.heap.size) := by unfold Hid; rw [hBe]; exact HR.out.k.s
  have hxl : xs.length = g.nodes.length * 3 := HXR.out.len
  have HNW : Hid (0 < g.nodes.length -> ∃ a, some (⟨gb, oo, none⟩ : Addr) = some a /\ ∀ j u, xs[j]? = some u -> w5.cell? (a.add j) = some u) := fun h => by
   obtain ⟨b, o, hA, hc⟩ := HXC.out h
   exact ⟨⟨b, o, none⟩, hA, fun j u hj => by rw [addr_add]; exact cell_below HR.out.b (hc j u hj)⟩
  have HONE : Hid (∀ u ∈ xs, u.oneCell' = true) := HXR.out.oneCell one_nod
  have HXL := Lib.hid hxl
  clear q0 hxl
  go_upto_region 47 with (first
   | (at_builtin; refine wpList_append_q _ rfl (.tmp 199) (.tmp 201) _ rfl B 29 n0 (.agg #[.int .i64 0, .string .empty, .slice none 0 0]) 3 48 Tryz.underlying22 ni nz nz1 nz2 rfl (by decide) (.slice none 0 0) 0 [] rfl HOA.out (some ⟨gb, oo, none⟩) g.nodes.length c1 xs rfl HXL.out HNW.out HONE.out (by unfold maxLen; omega) (by omega) HBZ.out ?_; intro v7 w7 hown7 hg7 hat7
      have hr7 := HR.out.grown (by rw [<- hBe]; exact HOA.out) hw0 (by decide) hg7
      have f0 := block_free hr7.q 0
      have r0 := block_cell hr7.q 0
      obtain ⟨A7, c7, hv7, _, _⟩ := hown7.form
      subst hv7))
  have n7 := grown_block hg7 HN5.out (by simp [Value.ownBlock])
  have hv7 := HV5.out.same (Same.grown HOA.out (by decide) hg7)
  have HB7 : Hid (w5.heap.size <= w7.heap.size) := hg7.size
  have n8 : (w7.setCell ⟨w.heap.size + 1 + 1 + 1, 0, none⟩ (.slice A7 g.nodes.length c7)).heap[nb]? = _ := (Below.heap_setCell w7 ⟨w.heap.size + 1 + 1 + 1, 0, none⟩ (.slice A7 g.nodes.length c7) nb HNB.out.2).trans n7
  have hv8 := hv7.same (hr7.same 0 (.slice A7 g.nodes.length c7) (T := 33) (by decide))
  clear n7 hv7
  have HR2 := Lib.hid (hr7.setN (.slice A7 (g.nodes.length) c7))
  have hoa2 := hown7.same (hr7.same 0 (.slice A7 (g.nodes.length) c7) (T := 29) (by decide))
  clear f0 r0 hr7 hown7 hg7 hat7 HR HOA HNW
  generalize w7.setCell ⟨w.heap.size + 1 + 1 + 1, 0, none⟩ (.slice A7 (g.nodes.length) c7) = w8 at *
  have HB8 : Hid (B <= w8.heap.size) := by unfold Hid; rw [hBe]; exact HR2.out.k.s
  rw [Nat.zero_add, List.nil_append] at hoa2
  obtain ⟨ga, oa, ca, hva, hga1, hga2⟩ := hoa2.addr (by omega)
  cases hva
  have hne := hoa2.ne_block HR2.out.q (by decide)
  have HNEB : Hid (ga ≠ w.heap.size + 1 + 1 + 1) := fun e => hne (by rw [e]; rfl)
  have y0 := block_cell HR2.out.q 0
  have z0 := block_cell n8 0
  have z1 := block_cell n8 1
  have z2 := block_cell n8 2
  obtain ⟨cs, ⟨v9, rfl, _⟩, hcs⟩ := HXR.out.get HNN.out
  have c0 : w8.cell? ⟨ga, oa + k * 3, none⟩ = some (.int .i64 n.id) := hoa2.cell rfl (hcs 0 _ rfl)
  have c1' : w8.cell? ⟨ga, oa + k * 3 + 1, none⟩ = some (.string n.kind) := hoa2.cell rfl (hcs 1 _ rfl)
  have c2' : w8.cell? ⟨ga, oa + k * 3 + 2, none⟩ = some v9 := hoa2.cell rfl (hcs 2 _ rfl)
  have f0 := hoa2.frozen rfl (oa + k * 3)
  have f1 := hoa2.frozen rfl (oa + k * 3 + 1)
  have f2 := hoa2.frozen rfl (oa + k * 3 + 2)
  have hkx : k * 3 + 2 < g.nodes.length * 3 := by omega
  clear hcs hne
  go_upto_region 48 with fail
  have s1 := hoa2.store (k * 3) (by omega) (.int .i64 n.id)
  have s2 := s1.store (k * 3 + 1) (by omega) (.string n.kind)
  have s3 : Own (((w8.setCell ⟨ga, oa + k * 3, none⟩ (.int .i64 n.id)).setCell ⟨ga, oa + k * 3 + 1, none⟩ (.string n.kind)).setCell ⟨ga, oa + k * 3 + 2, none⟩ (.slice Ar2 rr.length cr2)) B 29 3 (.slice (some ⟨ga, oa, none⟩) g.nodes.length c7) g.nodes.length (((xs.set (k * 3) (.int .i64 n.id)).set (k * 3 + 1) (.string n.kind)).set (k * 3 + 2) (.slice Ar2 rr.length cr2)) := s2.store (k * 3 + 2) (by omega) (.slice Ar2 rr.length cr2)
  have r3 : RdS w W0 (w.heap.size + 1 + 1 + 1) (((w8.setCell ⟨ga, oa + k * 3, none⟩ (.int .i64 n.id)).setCell ⟨ga, oa + k * 3 + 1, none⟩ (.string n.kind)).setCell ⟨ga, oa + k * 3 + 2, none⟩ (.slice Ar2 rr.length cr2)) (.slice (some ⟨ga, oa, none⟩) g.nodes.length c7) (.slice none 0 0) := ((HR2.out.cellAt (p := ⟨ga, oa + k * 3, none⟩) (by rw [<- hBe]; exact hga1) HNEB.out hw0 (.int .i64 n.id)).cellAt (p := ⟨ga, oa + k * 3 + 1, none⟩) (by rw [<- hBe]; exact hga1) HNEB.out hw0 (.string n.kind)).cellAt (p := ⟨ga, oa + k * 3 + 2, none⟩) (by rw [<- hBe]; exact hga1) HNEB.out hw0 (.slice Ar2 rr.length cr2)
  have v3 : Own (((w8.setCell ⟨ga, oa + k * 3, none⟩ (.int .i64 n.id)).setCell ⟨ga, oa + k * 3 + 1, none⟩ (.string n.kind)).setCell ⟨ga, oa + k * 3 + 2, none⟩ (.slice Ar2 rr.length cr2)) _ 33 4 (.slice Ar2 rr.length cr2) (rr).length ((rr).flatMap Prp.enc) := ((hv8.same (Same.cellOf (T := 33) hoa2 (by decide) (oa + k * 3) (.int .i64 n.id))).same (Same.cellOf (T := 33) s1 (by decide) (oa + k * 3 + 1) (.string n.kind))).same (Same.cellOf (T := 33) s2 (by decide) (oa + k * 3 + 2) (.slice Ar2 rr.length cr2))
  have HR3 := Lib.hid r3
  have HOA := Lib.hid s3
  have HVW := Lib.hid v3
  clear s1 s2 s3 r3 v3 hoa2 hv8 n8 z0 z1 z2 c0 c1' c2' f0 f1 f2 y0 HR2 hga1 hga2 HNEB HB8
  have HR2 := HR3
  clear HR3
  generalize ((w8.setCell ⟨ga, oa + k * 3, none⟩ (.int .i64 n.id)).setCell ⟨ga, oa + k * 3 + 1, none⟩ (.string n.kind)).setCell ⟨ga, oa + k * 3 + 2, none⟩ (.slice Ar2 rr.length cr2) = w8 at *
  have q0 := HR2.out.old G0.out (by omega)
  have x1 := block_cell q0 1
  have y1 := block_cell HR2.out.q 1
  have f1 := block_free HR2.out.q 1
  clear q0
  go_upto_region 49 with fail
  have HR := HR2
  clear HR2
  have HR2 := Lib.hid (HR.out.setT (.slice A2 g.ties.length c2))
  have hoa3 := Lib.hid (HOA.out.same (HR.out.same 1 (.slice A2 g.ties.length c2) (T := 29) (by decide)))
  have hvw3 := Lib.hid (HVW.out.same (HR.out.same 1 (.slice A2 g.ties.length c2) (T := 33) (by decide)))
  clear HOA HVW HR x1 y1 f1
  generalize w8.setCell ⟨w.heap.size + 1 + 1 + 1, 1, none⟩ (.slice A2 g.ties.length c2) = w8 at *
  have m2 := HR2.out.old G2.out (by omega)
  have a0 := block_free m2 0
  have a1 := block_free m2 1
  have a2 := block_cell m2 0
  have a3 := block_cell m2 1
  have y0 := block_cell HR2.out.q 0
  have y1 := block_cell HR2.out.q 1
  have s2 := setCell_block (setCell_block m2 0 (.slice (some ⟨ga, oa, none⟩) g.nodes.length c7)) 1 (.slice A2 g.ties.length c2)
  have hbX := (HR2.out.b.setCell (p := ⟨w.heap.size + 1 + 1, 0, none⟩) (by show w.heap.size <= w.heap.size + 1 + 1; omega) (.slice (some ⟨ga, oa, none⟩) g.nodes.length c7)).setCell (p := ⟨w.heap.size + 1 + 1, 1, none⟩) (by show w.heap.size <= w.heap.size + 1 + 1; omega) (.slice A2 g.ties.length c2)
  have HS2 := Lib.hid s2
  have HSM : Hid (∀ {T : TypeId}, 25 ≠ T -> Same T w8 ((w8.setCell ⟨w.heap.size + 1 + 1, 0, none⟩ (.slice (some ⟨ga, oa, none⟩) g.nodes.length c7)).setCell ⟨w.heap.size + 1 + 1, 1, none⟩ (.slice A2 g.ties.length c2))) := fun hT => (Same.setCell (p := ⟨w.heap.size + 1 + 1, 0, none⟩) m2 hT (.slice (some ⟨ga, oa, none⟩) g.nodes.length c7)).trans (Same.setCell (p := ⟨w.heap.size + 1 + 1, 1, none⟩) (setCell_block m2 0 (.slice (some ⟨ga, oa, none⟩) g.nodes.length c7)) hT (.slice A2 g.ties.length c2))
  have HBX := Lib.hid hbX
  have HST : Hid (∀ W', Stay w0 ((w8.setCell ⟨w.heap.size + 1 + 1, 0, none⟩ (.slice (some ⟨ga, oa, none⟩) g.nodes.length c7)).setCell ⟨w.heap.size + 1 + 1, 1, none⟩ (.slice A2 g.ties.length c2)) W' -> Stay w0 w W') := fun W' hW => hW.from HBX.out
  clear s2 m2 hbX
  go_wp2_with fail
  have k2' := block_cell HS2.out 0
  have k3' := block_cell HS2.out 1
  refine bodyPost_ret (v := .tuple #[.agg #[.slice (some ⟨ga, oa, none⟩) g.nodes.length c7, .slice A2 g.ties.length c2], .int .i64 (0)]) (by simp [results, Tryz.results8, go_sem, k2', k3']) rfl
   ⟨_, _, by rw [HE.out.1], by rw [HE.out.2]; exact ⟨Own.slS (L := nodL) (by rw [List.length_set]; exact hoa3.out.same (HSM.out (by decide))) (by decide) (fun W' hW => Row.put3 (d' := ⟨n.id, n.kind, rr⟩) (a := .int .i64 n.id) (b := .string n.kind) (c := .slice Ar2 rr.length cr2) ⟨.slice Ar2 rr.length cr2, rfl, HIS.out.1, HIS.out.2, ((hvw3.out.same (HSM.out (by decide))).same (hW.2 _ (by decide))).prps HVO⟩ (HXS.out W' (HST.out W' hW)) HNN.out), HGS.out.2.stay HST.out⟩, HBX.out⟩
set_option maxRecDepth 100000 in
set_option maxHeartbeats 32000000 in
theorem rdo_unset (g : Grf) (node : Nod) (prop : Prp) (tie : Tie) (vn vt : Value) (Ar : Option Addr) (cr : Nat) (w0 w : World) (hbw0 : Below w0.heap.size w0 w) (hgs : GrfS w0 w vn vt g) (ho : OprR w0 (.slice Ar node.props.length cr) ⟨4, node, prop, tie⟩) (h0 : grfE g = 0) :
 Calls Tryz.prog 8 #[.agg #[vn, vt], .agg #[.int .i64 4, .int .i64 node.id, .string node.kind, .slice Ar node.props.length cr, .string prop.name, .int .i64 prop.v.ty, .int .i64 prop.v.n, .string prop.v.s, .string tie.bond, .int .i64 tie.src, .int .i64 tie.dst]] w (RetGI w0 (doG g ⟨4, node, prop, tie⟩) (doE g ⟨4, node, prop, tie⟩) w) := by
 have hg := hgs.r hbw0
 have HGS := Lib.hid hgs
 have HBW := Lib.hid hbw0
 have hobase := ho
 have ho := hobase.below hbw0
 have HOB := Lib.hid hobase
 clear hobase hgs hbw0
 obtain ⟨A1, c1, rfl, _, _⟩ := hg.1.form
 obtain ⟨A2, c2, rfl, _, _⟩ := hg.2.form
 obtain ⟨W0, hW0⟩ : ∃ W0, W0 = (((w.alloc (.cells #[.slice A1 g.nodes.length c1, .slice A2 g.ties.length c2] 25)).alloc (.cells #[.int .i64 4, .int .i64 node.id, .string node.kind, .slice Ar node.props.length cr, .string prop.name, .int .i64 prop.v.ty, .int .i64 prop.v.n, .string prop.v.s, .string tie.bond, .int .i64 tie.src, .int .i64 tie.dst] 37)).alloc (.cells #[.slice none 0 0, .slice none 0 0] 25)).alloc (.cells #[.slice none 0 0, .slice none 0 0] 25) := ⟨_, rfl⟩
 have hb0 : Below w.heap.size w W0 := by rw [hW0]; exact ((((Below.refl _ _).alloc (Nat.le_refl _) _).alloc (by simp only [World.size_alloc]; omega) _).alloc (by simp only [World.size_alloc]; omega) _).alloc (by simp only [World.size_alloc]; omega) _
 have g0 : W0.heap[w.heap.size]? = some (.cells #[.slice A1 g.nodes.length c1, .slice A2 g.ties.length c2] 25 (0, 0)) := by
  rw [hW0, Below.heap_alloc _ _ _ (by simp only [World.size_alloc]; omega), Below.heap_alloc _ _ _ (by simp only [World.size_alloc]; omega), Below.heap_alloc _ _ _ (by simp only [World.size_alloc]; omega)]; exact heap_alloc_new _ _
 have g1 : W0.heap[w.heap.size + 1]? = some (.cells #[.int .i64 4, .int .i64 node.id, .string node.kind, .slice Ar node.props.length cr, .string prop.name, .int .i64 prop.v.ty, .int .i64 prop.v.n, .string prop.v.s, .string tie.bond, .int .i64 tie.src, .int .i64 tie.dst] 37 (0, 0)) := by
  have := heap_alloc_new (w.alloc (.cells #[.slice A1 g.nodes.length c1, .slice A2 g.ties.length c2] 25)) (.cells #[.int .i64 4, .int .i64 node.id, .string node.kind, .slice Ar node.props.length cr, .string prop.name, .int .i64 prop.v.ty, .int .i64 prop.v.n, .string prop.v.s, .string tie.bond, .int .i64 tie.src, .int .i64 tie.dst] 37); rw [hW0, Below.heap_alloc _ _ _ (by simp only [World.size_alloc]; omega), Below.heap_alloc _ _ _ (by simp only [World.size_alloc]; omega)]; simpa using this
 have g2 : W0.heap[w.heap.size + 1 + 1]? = some (.cells #[.slice none 0 0, .slice none 0 0] 25 (0, 0)) := by
  have := heap_alloc_new ((w.alloc (.cells #[.slice A1 g.nodes.length c1, .slice A2 g.ties.length c2] 25)).alloc (.cells #[.int .i64 4, .int .i64 node.id, .string node.kind, .slice Ar node.props.length cr, .string prop.name, .int .i64 prop.v.ty, .int .i64 prop.v.n, .string prop.v.s, .string tie.bond, .int .i64 tie.src, .int .i64 tie.dst] 37)) (.cells #[.slice none 0 0, .slice none 0 0] 25); rw [hW0, Below.heap_alloc _ _ _ (by simp only [World.size_alloc]; omega)]; simpa using this
 have g3 : W0.heap[w.heap.size + 1 + 1 + 1]? = some (.cells #[.slice none 0 0, .slice none 0 0] 25 (0, 0)) := by
  have := heap_alloc_new (((w.alloc (.cells #[.slice A1 g.nodes.length c1, .slice A2 g.ties.length c2] 25)).alloc (.cells #[.int .i64 4, .int .i64 node.id, .string node.kind, .slice Ar node.props.length cr, .string prop.name, .int .i64 prop.v.ty, .int .i64 prop.v.n, .string prop.v.s, .string tie.bond, .int .i64 tie.src, .int .i64 tie.dst] 37)).alloc (.cells #[.slice none 0 0, .slice none 0 0] 25)) (.cells #[.slice none 0 0, .slice none 0 0] 25); rw [hW0]; simpa using this
 have hW0' := hW0.symm
 have hw0 := hb0.size
 obtain ⟨b1, b2⟩ := unset_parts g node prop tie h0
 have P1 := Lib.hid b1
 have P2 := Lib.hid b2
 obtain ⟨k1, k2, k3, k4⟩ := grf_ok h0
 have hx := rgfind_any g _ _ node.id W0 (hg.below hb0)
 rw [idx_nod k3] at hx
 have x0 := block_cell g0 0
 have x1 := block_cell g0 1
 have o0 := block_cell g1 0
 have o1 := block_cell g1 1
 have o2 := block_cell g1 2
 have o3 := block_cell g1 3
 have G0 := Lib.hid g0
 have G1 := Lib.hid g1
 have G2 := Lib.hid g2
 have G3 := Lib.hid g3
 have HGW := Lib.hid hg
 have HOW := Lib.hid ho
 have HG := Lib.hid (hg.below hb0)
 have HO := Lib.hid (ho.below hb0)
 have HFHL : Hid (fhas g.nodes node.id = true -> fpos g.nodes node.id < g.nodes.length) := fun h => by obtain ⟨n, hn⟩ := fhas_some' h; exact (List.getElem?_eq_some_iff.1 hn).1
 generalize hfz : (if fhas g.nodes node.id = true then (fpos g.nodes node.id : Int) else -1) = fz at *
 have HFZ := Lib.hid hfz
 clear hg ho g0 g1 g2 g3 hW0 hfz
 go_enter Tryz.func8, Tryz.ntmps8
 go_wp2_with fail
 clear hW0'
 refine hx.mono ?_
 clear hx
 rintro e w1 ⟨rfl, hb1⟩
 have hB1 := hb0.trans (hb1.mono hw0)
 have m0 := (hb1.block _ (geB G0.out)).trans G0.out
 have m1 := (hb1.block _ (geB G1.out)).trans G1.out
 have m2 := (hb1.block _ (geB G2.out)).trans G2.out
 have m3 := (hb1.block _ (geB G3.out)).trans G3.out
 have x0 := block_cell m0 0
 have x1 := block_cell m0 1
 have o0 := block_cell m1 0
 have o1 := block_cell m1 1
 clear m0
 generalize doE g ⟨4, node, prop, tie⟩ = de at *
 generalize doG g ⟨4, node, prop, tie⟩ = dg at *
 have HK1 := Lib.hid k1
 clear b1 b2 k3 k4
 cases hf : fhas g.nodes node.id with
 | false =>
  have HE := Lib.hid (P1.out hf)
  have hz : fz = -1 := by rw [<- HFZ.out, hf]; rfl
  subst hz
  have hB2 := hB1
  clear hf HFZ P1 P2 HFHL
  have a0 := block_free m2 0
  have a1 := block_free m2 1
  have a2 := block_cell m2 0
  have a3 := block_cell m2 1
  have y0 := block_cell m3 0
  have y1 := block_cell m3 1
  have s2 := setCell_block (setCell_block m2 0 (.slice none 0 0)) 1 (.slice none 0 0)
  have hbX := (hB2.setCell (p := ⟨w.heap.size + 1 + 1, 0, none⟩) (by show w.heap.size <= w.heap.size + 1 + 1; omega) (.slice none 0 0)).setCell (p := ⟨w.heap.size + 1 + 1, 1, none⟩) (by show w.heap.size <= w.heap.size + 1 + 1; omega) (.slice none 0 0)
  have HS2 := Lib.hid s2
  clear s2 m2 m3
  go_wp2_with fail
  have k2' := block_cell HS2.out 0
  have k3' := block_cell HS2.out 1
  exact bodyPost_ret (v := .tuple #[.agg #[.slice none 0 0, .slice none 0 0], .int .i64 (5)]) (by simp [results, Tryz.results8, go_sem, k2', k3']) rfl
   ⟨_, _, by rw [HE.out.1], by rw [HE.out.2]; exact ⟨SlS.nil _ _, SlS.nil _ _⟩, hbX⟩
 | true =>
  obtain ⟨n, hn⟩ := fhas_some' hf
  have HE2 := Lib.hid (P2.out n hn hf)
  have hz : fz = (fpos g.nodes node.id : Int) := by rw [<- HFZ.out, hf]; rfl
  subst hz
  have hkl := HFHL.out hf
  obtain ⟨Arow, crow, xs, hvrow, _, _, hxall⟩ := HGS.out.1
  cases hvrow
  have hxs0 := hxall w (Stay.refl HBW.out)
  have HXR := Lib.hid hxs0.1
  have HXC := Lib.hid hxs0.2
  have HXS : Hid (∀ W', Stay w0 w W' -> Row nodL W' _ xs) := fun W' hW => (hxall W' hW).1
  clear hxs0 hxall
  obtain ⟨n0, ni, nz, nz1, nz2⟩ := info_parts nodT_info
  obtain ⟨B, hBe⟩ : ∃ B, B = W0.heap.size := ⟨_, rfl⟩
  have HRN : Hid (recE n.props = 0) := grf_rec h0 hn
  have HNN := Lib.hid hn
  have hr3 : RdS w W0 (w.heap.size + 1 + 1 + 1) w1 (.slice none 0 0) (.slice none 0 0) := ⟨(Kp.refl _ _).below hb1, hB1, m3, by omega⟩
  have HR0 := Lib.hid hr3
  have y0 := block_cell m3 0
  have y1 := block_cell m3 1
  obtain ⟨gb, oo, hA, u, hid, hsm, hus, q0, q1, q2⟩ := nod_at (HG.out.below hb1).1 hn
  subst hA
  obtain ⟨Au, cu, rfl, _, _⟩ := hus.form
  have HUS := Lib.hid hus
  have HIS : Hid (I64 n.id /\ Sm n.kind) := ⟨hid, hsm⟩
  clear m2 m3 m1 hf HFZ P1 P2 HFHL hr3 hn hus hid hsm h0
  generalize fpos g.nodes node.id = k at *
  have hk0 : ¬ (k : Int) < 0 := by omega
  have hk1 : (0 : Int) <= (k : Int) := by omega
  have hkc2 : (k : Int) < (g.nodes.length : Int) := by omega
  go_upto_region 36 with fail
  have hal : Below w1.heap.size w1 (w1.alloc (.cells #[.int .i64 n.id, .string n.kind, .slice Au n.props.length cu] 29)) := (Below.refl _ _).alloc (Nat.le_refl _) _
  have n3 := heap_alloc_new w1 (.cells #[.int .i64 n.id, .string n.kind, .slice Au n.props.length cu] 29)
  have HR3 := Lib.hid (HR0.out.below hal)
  have HUS3 := Lib.hid (HUS.out.below hal)
  have hnb1 : W0.heap.size <= w1.heap.size := HR0.out.k.s
  have hnb2 : w1.heap.size ≠ w.heap.size + 1 + 1 + 1 := fun e => by
   have h1 := (geB HR0.out.q)
   omega
  have HNB : Hid (W0.heap.size <= w1.heap.size /\ w1.heap.size ≠ w.heap.size + 1 + 1 + 1) := ⟨hnb1, hnb2⟩
  clear hnb1 hnb2 hal x0 x1 o0 o1 y0 y1 q0 q1 q2 hb1 hB1 HR0 HUS
  obtain ⟨nb, hnb⟩ : ∃ nb, nb = w1.heap.size := ⟨_, rfl⟩
  rw [<- hnb] at n3 HNB
  rw [<- hnb]
  clear hnb
  generalize w1.alloc (.cells #[.int .i64 n.id, .string n.kind, .slice Au n.props.length cu] 29) = w3 at *
  have z2 := block_cell n3 2
  have q1 := HR3.out.old G1.out (by omega)
  have o0 := block_cell q1 0
  have o4 := block_cell q1 4
  have o5 := block_cell q1 5
  have o6 := block_cell q1 6
  have o7 := block_cell q1 7
  have hx := rset_any n.props prop (.slice Au n.props.length cu) w3 HUS3.out HO.out.p HRN.out
  have HN3 := Lib.hid n3
  clear n3 q1
  go_wp2_with fail
  refine hx.mono ?_
  clear hx
  rintro e w4 ⟨vr, rfl, hvr, hb4⟩
  have HR4 := Lib.hid (HR3.out.below hb4)
  have HN4 := Lib.hid ((hb4.block _ (geB HN3.out)).trans HN3.out)
  clear o0 o4 o5 o6 o7 z2
  have q1 := HR4.out.old G1.out (by omega)
  have o0 := block_cell q1 0
  have o4 := block_cell q1 4
  have z2 := block_cell HN4.out 2
  have y0 := block_cell HR4.out.q 0
  have y1 := block_cell HR4.out.q 1
  clear q1
  have HUS4 := Lib.hid (HUS3.out.below hb4)
  obtain ⟨u1, u2⟩ := rUns_eq HRN.out prop.name
  have HU1 := Lib.hid u1
  have HU2 := Lib.hid u2
  have hx := runset_any n.props prop.name (.slice Au n.props.length cu) w4 HUS4.out (Nat.le_trans (rec_ok HRN.out).1 (by decide))
  obtain ⟨Ar1, cr1, hvq, _, _⟩ := hvr.1.form
  subst hvq
  clear u1 u2 hvr hb4
  generalize setE n.props prop = se1 at *
  go_wp2_with fail
  refine hx.mono ?_
  clear hx o0 o4 z2 y0 y1
  rintro e w4 ⟨vr, rfl, hvr, hb5⟩
  have HR4 := Lib.hid (HR4.out.below hb5)
  have HN4 := Lib.hid ((hb5.block _ (geB HN4.out)).trans HN4.out)
  have q1 := HR4.out.old G1.out (by omega)
  have o0 := block_cell q1 0
  have o4 := block_cell q1 4
  have z2 := block_cell HN4.out 2
  have y0 := block_cell HR4.out.q 0
  have y1 := block_cell HR4.out.q 1
  clear q1
  obtain ⟨Ar2, cr2, hvq, _, _⟩ := hvr.1.form
  subst hvq
  cases hh : rhas n.props prop.name with
  | false =>
   obtain ⟨e1, e2, e3⟩ := HU2.out hh
   have HE := Lib.hid (show de = 5 /\ dg = ⟨[], []⟩ from by have h := HE2.out.1 (by rw [e1]; decide); rw [e1] at h; exact h)
   rw [decide_eq_false e3]
   have m2 := HR4.out.old G2.out (by omega)
   have m3 := HR4.out.q
   have hB2 := HR4.out.b
   clear e1 e2 e3 hh HU1 HU2 HE2 hvr hb5 y0 y1
   generalize rUnsL n.props prop.name = rr at *
   have a0 := block_free m2 0
   have a1 := block_free m2 1
   have a2 := block_cell m2 0
   have a3 := block_cell m2 1
   have y0 := block_cell m3 0
   have y1 := block_cell m3 1
   have s2 := setCell_block (setCell_block m2 0 (.slice none 0 0)) 1 (.slice none 0 0)
   have hbX := (hB2.setCell (p := ⟨w.heap.size + 1 + 1, 0, none⟩) (by show w.heap.size <= w.heap.size + 1 + 1; omega) (.slice none 0 0)).setCell (p := ⟨w.heap.size + 1 + 1, 1, none⟩) (by show w.heap.size <= w.heap.size + 1 + 1; omega) (.slice none 0 0)
   have HS2 := Lib.hid s2
   clear s2 m2 m3
   go_wp2_with fail
   have k2' := block_cell HS2.out 0
   have k3' := block_cell HS2.out 1
   exact bodyPost_ret (v := .tuple #[.agg #[.slice none 0 0, .slice none 0 0], .int .i64 (5)]) (by simp [results, Tryz.results8, go_sem, k2', k3']) rfl
    ⟨_, _, by rw [HE.out.1], by rw [HE.out.2]; exact ⟨SlS.nil _ _, SlS.nil _ _⟩, hbX⟩
  | true =>
   obtain ⟨e1, e2, e3⟩ := HU1.out hh
   have HE := Lib.hid (HE2.out.2 e2)
   rw [decide_eq_true e3]
   rw [e1] at hvr
   rw [e1]
   clear e1 e2 e3 hh HU1 HU2 HE2 hb5
   generalize unsetR n.props prop.name = rr at *
   have HVR := Lib.hid hvr
   clear hvr
   have zf := block_free HN4.out 2
   go_upto_region 46 with fail
   have HR5 := Lib.hid (HR4.out.cellAt (p := ⟨nb, 2, none⟩) HNB.out.1 HNB.out.2 hw0 (.slice Ar2 rr.length cr2))
   have HN5 := Lib.hid (setCell_block HN4.out 2 (.slice Ar2 rr.length cr2))
   have hvr5 := (HVR.out.1).same (Same.setCell (p := ⟨nb, 2, none⟩) HN4.out (T := 33) (by decide) (.slice Ar2 rr.length cr2))
   have HB5 : Hid (w4.heap.size <= (w4.setCell ⟨nb, 2, none⟩ (.slice Ar2 rr.length cr2)).heap.size) := by unfold Hid; simp [World.setCell]
   clear z2 zf y0 y1 o0 o4
   generalize w4.setCell ⟨nb, 2, none⟩ (.slice Ar2 rr.length cr2) = w5 at *
   have HVO := HVR.out.2
   have HV5 := Lib.hid hvr5
   clear hvr5 HR4 HN4 HVR
   have q0 := HR5.out.old G0.out (by omega)
   have x0 := block_cell q0 0
   have y0 := block_cell HR5.out.q 0
   have HR := HR5
   have HOA : Hid (Own w5 B 29 3 (.slice none 0 0) 0 []) := Own.nil _ _ _ _
   have HBZ : Hid (B <= w5.heap.size) := by unfold Hid; rw [hBe]; exact HR.out.k.s
   have hxl : xs.length = g.nodes.length * 3 := HXR.out.len
   have HNW : Hid (0 < g.nodes.length -> ∃ a, some (⟨gb, oo, none⟩ : Addr) = some a /\ ∀ j u, xs[j]? = some u -> w5.cell? (a.add j) = some u) := fun h => by
    obtain ⟨b, o, hA, hc⟩ := HXC.out h
    exact ⟨⟨b, o, none⟩, hA, fun j u hj => by rw [addr_add]; exact cell_below HR.out.b (hc j u hj)⟩
   have HONE : Hid (∀ u ∈ xs, u.oneCell' = true) := HXR.out.oneCell one_nod
   have HXL := Lib.hid hxl
   clear q0 hxl
   go_upto_region 47 with (first
    | (at_builtin; refine wpList_append_q _ rfl (.tmp 199) (.tmp 201) _ rfl B 29 n0 (.agg #[.int .i64 0, .string .empty, .slice none 0 0]) 3 48 Tryz.underlying22 ni nz nz1 nz2 rfl (by decide) (.slice none 0 0) 0 [] rfl HOA.out (some ⟨gb, oo, none⟩) g.nodes.length c1 xs rfl HXL.out HNW.out HONE.out (by unfold maxLen; omega) (by omega) HBZ.out ?_; intro v7 w7 hown7 hg7 hat7
       have hr7 := HR.out.grown (by rw [<- hBe]; exact HOA.out) hw0 (by decide) hg7
       have f0 := block_free hr7.q 0
       have r0 := block_cell hr7.q 0
       obtain ⟨A7, c7, hv7, _, _⟩ := hown7.form
       subst hv7))
   have n7 := grown_block hg7 HN5.out (by simp [Value.ownBlock])
   have hv7 := HV5.out.same (Same.grown HOA.out (by decide) hg7)
   have HB7 : Hid (w5.heap.size <= w7.heap.size) := hg7.size
   have n8 : (w7.setCell ⟨w.heap.size + 1 + 1 + 1, 0, none⟩ (.slice A7 g.nodes.length c7)).heap[nb]? = _ := (Below.heap_setCell w7 ⟨w.heap.size + 1 + 1 + 1, 0, none⟩ (.slice A7 g.nodes.length c7) nb HNB.out.2).trans n7
   have hv8 := hv7.same (hr7.same 0 (.slice A7 g.nodes.length c7) (T := 33) (by decide))
   clear n7 hv7
   have HR2 := Lib.hid (hr7.setN (.slice A7 (g.nodes.length) c7))
   have hoa2 := hown7.same (hr7.same 0 (.slice A7 (g.nodes.length) c7) (T := 29) (by decide))
   clear f0 r0 hr7 hown7 hg7 hat7 HR HOA HNW
   generalize w7.setCell ⟨w.heap.size + 1 + 1 + 1, 0, none⟩ (.slice A7 (g.nodes.length) c7) = w8 at *
   have HB8 : Hid (B <= w8.heap.size) := by unfold Hid; rw [hBe]; exact HR2.out.k.s
   rw [Nat.zero_add, List.nil_append] at hoa2
   obtain ⟨ga, oa, ca, hva, hga1, hga2⟩ := hoa2.addr (by omega)
   cases hva
   have hne := hoa2.ne_block HR2.out.q (by decide)
   have HNEB : Hid (ga ≠ w.heap.size + 1 + 1 + 1) := fun e => hne (by rw [e]; rfl)
   have y0 := block_cell HR2.out.q 0
   have z0 := block_cell n8 0
   have z1 := block_cell n8 1
   have z2 := block_cell n8 2
   obtain ⟨cs, ⟨v9, rfl, _⟩, hcs⟩ := HXR.out.get HNN.out
   have c0 : w8.cell? ⟨ga, oa + k * 3, none⟩ = some (.int .i64 n.id) := hoa2.cell rfl (hcs 0 _ rfl)
   have c1' : w8.cell? ⟨ga, oa + k * 3 + 1, none⟩ = some (.string n.kind) := hoa2.cell rfl (hcs 1 _ rfl)
   have c2' : w8.cell? ⟨ga, oa + k * 3 + 2, none⟩ = some v9 := hoa2.cell rfl (hcs 2 _ rfl)
   have f0 := hoa2.frozen rfl (oa + k * 3)
   have f1 := hoa2.frozen rfl (oa + k * 3 + 1)
   have f2 := hoa2.frozen rfl (oa + k * 3 + 2)
   have hkx : k * 3 + 2 < g.nodes.length * 3 := by omega
   clear hcs hne
   go_upto_region 48 with fail
   have s1 := hoa2.store (k * 3) (by omega) (.int .i64 n.id)
   have s2 := s1.store (k * 3 + 1) (by omega) (.string n.kind)
   have s3 : Own (((w8.setCell ⟨ga, oa + k * 3, none⟩ (.int .i64 n.id)).setCell ⟨ga, oa + k * 3 + 1, none⟩ (.string n.kind)).setCell ⟨ga, oa + k * 3 + 2, none⟩ (.slice Ar2 rr.length cr2)) B 29 3 (.slice (some ⟨ga, oa, none⟩) g.nodes.length c7) g.nodes.length (((xs.set (k * 3) (.int .i64 n.id)).set (k * 3 + 1) (.string n.kind)).set (k * 3 + 2) (.slice Ar2 rr.length cr2)) := s2.store (k * 3 + 2) (by omega) (.slice Ar2 rr.length cr2)
   have r3 : RdS w W0 (w.heap.size + 1 + 1 + 1) (((w8.setCell ⟨ga, oa + k * 3, none⟩ (.int .i64 n.id)).setCell ⟨ga, oa + k * 3 + 1, none⟩ (.string n.kind)).setCell ⟨ga, oa + k * 3 + 2, none⟩ (.slice Ar2 rr.length cr2)) (.slice (some ⟨ga, oa, none⟩) g.nodes.length c7) (.slice none 0 0) := ((HR2.out.cellAt (p := ⟨ga, oa + k * 3, none⟩) (by rw [<- hBe]; exact hga1) HNEB.out hw0 (.int .i64 n.id)).cellAt (p := ⟨ga, oa + k * 3 + 1, none⟩) (by rw [<- hBe]; exact hga1) HNEB.out hw0 (.string n.kind)).cellAt (p := ⟨ga, oa + k * 3 + 2, none⟩) (by rw [<- hBe]; exact hga1) HNEB.out hw0 (.slice Ar2 rr.length cr2)
   have v3 : Own (((w8.setCell ⟨ga, oa + k * 3, none⟩ (.int .i64 n.id)).setCell ⟨ga, oa + k * 3 + 1, none⟩ (.string n.kind)).setCell ⟨ga, oa + k * 3 + 2, none⟩ (.slice Ar2 rr.length cr2)) _ 33 4 (.slice Ar2 rr.length cr2) (rr).length ((rr).flatMap Prp.enc) := ((hv8.same (Same.cellOf (T := 33) hoa2 (by decide) (oa + k * 3) (.int .i64 n.id))).same (Same.cellOf (T := 33) s1 (by decide) (oa + k * 3 + 1) (.string n.kind))).same (Same.cellOf (T := 33) s2 (by decide) (oa + k * 3 + 2) (.slice Ar2 rr.length cr2))
   have HR3 := Lib.hid r3
   have HOA := Lib.hid s3
   have HVW := Lib.hid v3
   clear s1 s2 s3 r3 v3 hoa2 hv8 n8 z0 z1 z2 c0 c1' c2' f0 f1 f2 y0 HR2 hga1 hga2 HNEB HB8
   have HR2 := HR3
   clear HR3
   generalize ((w8.setCell ⟨ga, oa + k * 3, none⟩ (.int .i64 n.id)).setCell ⟨ga, oa + k * 3 + 1, none⟩ (.string n.kind)).setCell ⟨ga, oa + k * 3 + 2, none⟩ (.slice Ar2 rr.length cr2) = w8 at *
   have q0 := HR2.out.old G0.out (by omega)
   have x1 := block_cell q0 1
   have y1 := block_cell HR2.out.q 1
   have f1 := block_free HR2.out.q 1
   clear q0
   go_upto_region 49 with fail
   have HR := HR2
   clear HR2
   have HR2 := Lib.hid (HR.out.setT (.slice A2 g.ties.length c2))
   have hoa3 := Lib.hid (HOA.out.same (HR.out.same 1 (.slice A2 g.ties.length c2) (T := 29) (by decide)))
   have hvw3 := Lib.hid (HVW.out.same (HR.out.same 1 (.slice A2 g.ties.length c2) (T := 33) (by decide)))
   clear HOA HVW HR x1 y1 f1
   generalize w8.setCell ⟨w.heap.size + 1 + 1 + 1, 1, none⟩ (.slice A2 g.ties.length c2) = w8 at *
   have m2 := HR2.out.old G2.out (by omega)
   have a0 := block_free m2 0
   have a1 := block_free m2 1
   have a2 := block_cell m2 0
   have a3 := block_cell m2 1
   have y0 := block_cell HR2.out.q 0
   have y1 := block_cell HR2.out.q 1
   have s2 := setCell_block (setCell_block m2 0 (.slice (some ⟨ga, oa, none⟩) g.nodes.length c7)) 1 (.slice A2 g.ties.length c2)
   have hbX := (HR2.out.b.setCell (p := ⟨w.heap.size + 1 + 1, 0, none⟩) (by show w.heap.size <= w.heap.size + 1 + 1; omega) (.slice (some ⟨ga, oa, none⟩) g.nodes.length c7)).setCell (p := ⟨w.heap.size + 1 + 1, 1, none⟩) (by show w.heap.size <= w.heap.size + 1 + 1; omega) (.slice A2 g.ties.length c2)
   have HS2 := Lib.hid s2
   have HSM : Hid (∀ {T : TypeId}, 25 ≠ T -> Same T w8 ((w8.setCell ⟨w.heap.size + 1 + 1, 0, none⟩ (.slice (some ⟨ga, oa, none⟩) g.nodes.length c7)).setCell ⟨w.heap.size + 1 + 1, 1, none⟩ (.slice A2 g.ties.length c2))) := fun hT => (Same.setCell (p := ⟨w.heap.size + 1 + 1, 0, none⟩) m2 hT (.slice (some ⟨ga, oa, none⟩) g.nodes.length c7)).trans (Same.setCell (p := ⟨w.heap.size + 1 + 1, 1, none⟩) (setCell_block m2 0 (.slice (some ⟨ga, oa, none⟩) g.nodes.length c7)) hT (.slice A2 g.ties.length c2))
   have HBX := Lib.hid hbX
   have HST : Hid (∀ W', Stay w0 ((w8.setCell ⟨w.heap.size + 1 + 1, 0, none⟩ (.slice (some ⟨ga, oa, none⟩) g.nodes.length c7)).setCell ⟨w.heap.size + 1 + 1, 1, none⟩ (.slice A2 g.ties.length c2)) W' -> Stay w0 w W') := fun W' hW => hW.from HBX.out
   clear s2 m2 hbX
   go_wp2_with fail
   have k2' := block_cell HS2.out 0
   have k3' := block_cell HS2.out 1
   refine bodyPost_ret (v := .tuple #[.agg #[.slice (some ⟨ga, oa, none⟩) g.nodes.length c7, .slice A2 g.ties.length c2], .int .i64 (0)]) (by simp [results, Tryz.results8, go_sem, k2', k3']) rfl
    ⟨_, _, by rw [HE.out.1], by rw [HE.out.2]; exact ⟨Own.slS (L := nodL) (by rw [List.length_set]; exact hoa3.out.same (HSM.out (by decide))) (by decide) (fun W' hW => Row.put3 (d' := ⟨n.id, n.kind, rr⟩) (a := .int .i64 n.id) (b := .string n.kind) (c := .slice Ar2 rr.length cr2) ⟨.slice Ar2 rr.length cr2, rfl, HIS.out.1, HIS.out.2, ((hvw3.out.same (HSM.out (by decide))).same (hW.2 _ (by decide))).prps HVO⟩ (HXS.out W' (HST.out W' hW)) HNN.out), HGS.out.2.stay HST.out⟩, HBX.out⟩
open Go
/-! ### The records -/
theorem ties_nodup {g : Grf} (h : grfE g = 0) : g.ties.Nodup :=
 (ties_pw h).imp fun {a b} hab e => by subst e; exact tieLt_ir a hab
end Go.Proofs.YtngbbefpphinjaaGreatDoor
