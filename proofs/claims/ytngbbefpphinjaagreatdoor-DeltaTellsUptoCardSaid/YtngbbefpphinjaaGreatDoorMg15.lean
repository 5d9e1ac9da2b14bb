/- Parts: RdC, DbQ, DbR, RdD. -/
import Derived.Test.YtngbbefpphinjaaGreatDoorMg13
import Derived.Test.YtngbbefpphinjaaGreatDoorMg06
/- Contract of the reference: kinref1.Do at an op that sets a property, and at one that takes one away. -/
namespace Go.Proofs.YtngbbefpphinjaaGreatDoor
open Go Go.RowKit



theorem grf_rec {g : Grf} (h : grfE g = 0) {n : Nod} {k : Nat} (hk : g.nodes[k]? = some n) : recE n.props = 0 := by
  have hn := List.mem_of_getElem? hk
  have h5 := ((grf_ok h).2.2.2 n hn).2
  unfold nodE at h5
  split at h5
  · cases h5
  · split at h5
    · exact h5
    · rename_i h6; exact absurd h5 h6
theorem set_parts (g : Grf) (node : Nod) (prop : Prp) (tie : Tie) (h : grfE g = 0) : (fhas g.nodes node.id = false → doE g ⟨3, node, prop, tie⟩ = 5 ∧ doG g ⟨3, node, prop, tie⟩ = ⟨[], []⟩) ∧
    (∀ n, g.nodes[fpos g.nodes node.id]? = some n → fhas g.nodes node.id = true → (setE n.props prop ≠ 0 → doE g ⟨3, node, prop, tie⟩ = setE n.props prop ∧ doG g ⟨3, node, prop, tie⟩ = ⟨[], []⟩) ∧
      (setE n.props prop = 0 → doE g ⟨3, node, prop, tie⟩ = 0 ∧ doG g ⟨3, node, prop, tie⟩ = ⟨g.nodes.set (fpos g.nodes node.id) ⟨n.id, n.kind, setR n.props prop⟩, g.ties⟩)) := by
  obtain ⟨d1, d2, d3⟩ := doE_right h ⟨3, node, prop, tie⟩
  have e : opE g ⟨3, node, prop, tie⟩ = (if fhas g.nodes node.id then setE (recAt g.nodes node.id) prop else 5) := by
    unfold opE; simp
  have eG : opG g ⟨3, node, prop, tie⟩ = ⟨putRec g.nodes (fpos g.nodes node.id) (setR (recAt g.nodes node.id) prop), g.ties⟩ := by
    unfold opG; simp
  refine ⟨fun hf => ?_, fun n hn hf => ?_⟩
  · have h1 : opE g ⟨3, node, prop, tie⟩ = 5 := by rw [e, if_neg (by rw [hf]; simp)]
    exact ⟨by rw [d1, h1], d2 (by rw [h1]; omega)⟩
  · have hr : recAt g.nodes node.id = n.props := by unfold recAt; rw [hn]
    have hp : ∀ r, putRec g.nodes (fpos g.nodes node.id) r = g.nodes.set (fpos g.nodes node.id) ⟨n.id, n.kind, r⟩ := fun r => by unfold putRec; rw [hn]
    rw [hr, if_pos hf] at e
    rw [hr, hp] at eG
    exact ⟨fun h1 => ⟨by rw [d1, e], d2 (by rw [e]; exact h1)⟩, fun h1 => ⟨by rw [d1, e, h1], by rw [d3 (by rw [e, h1]), eG]⟩⟩
theorem unset_parts (g : Grf) (node : Nod) (prop : Prp) (tie : Tie) (h : grfE g = 0) : (fhas g.nodes node.id = false → doE g ⟨4, node, prop, tie⟩ = 5 ∧ doG g ⟨4, node, prop, tie⟩ = ⟨[], []⟩) ∧
    (∀ n, g.nodes[fpos g.nodes node.id]? = some n → fhas g.nodes node.id = true → (unsetE n.props prop.name ≠ 0 → doE g ⟨4, node, prop, tie⟩ = unsetE n.props prop.name ∧ doG g ⟨4, node, prop, tie⟩ = ⟨[], []⟩) ∧
      (unsetE n.props prop.name = 0 → doE g ⟨4, node, prop, tie⟩ = 0 ∧ doG g ⟨4, node, prop, tie⟩ = ⟨g.nodes.set (fpos g.nodes node.id) ⟨n.id, n.kind, unsetR n.props prop.name⟩, g.ties⟩)) := by
  obtain ⟨d1, d2, d3⟩ := doE_right h ⟨4, node, prop, tie⟩
  have e : opE g ⟨4, node, prop, tie⟩ = (if fhas g.nodes node.id then unsetE (recAt g.nodes node.id) prop.name else 5) := by
    unfold opE; simp
  have eG : opG g ⟨4, node, prop, tie⟩ = ⟨putRec g.nodes (fpos g.nodes node.id) (unsetR (recAt g.nodes node.id) prop.name), g.ties⟩ := by
    unfold opG; simp
  refine ⟨fun hf => ?_, fun n hn hf => ?_⟩
  · have h1 : opE g ⟨4, node, prop, tie⟩ = 5 := by rw [e, if_neg (by rw [hf]; simp)]
    exact ⟨by rw [d1, h1], d2 (by rw [h1]; omega)⟩
  · have hr : recAt g.nodes node.id = n.props := by unfold recAt; rw [hn]
    have hp : ∀ r, putRec g.nodes (fpos g.nodes node.id) r = g.nodes.set (fpos g.nodes node.id) ⟨n.id, n.kind, r⟩ := fun r => by unfold putRec; rw [hn]
    rw [hr, if_pos hf] at e
    rw [hr, hp] at eG
    exact ⟨fun h1 => ⟨by rw [d1, e], d2 (by rw [e]; exact h1)⟩, fun h1 => ⟨by rw [d1, e, h1], by rw [d3 (by rw [e, h1]), eG]⟩⟩
set_option maxRecDepth 100000 in
set_option maxHeartbeats 32000000 in
theorem rdo_set (g : Grf) (node : Nod) (prop : Prp) (tie : Tie) (vn vt : Value) (Ar : Option Addr) (cr : Nat) (w0 w : World) (hbw0 : Below w0.heap.size w0 w) (hgs : GrfS w0 w vn vt g) (ho : OprR w0 (.slice Ar node.props.length cr) ⟨3, node, prop, tie⟩) (h0 : grfE g = 0) :
    Calls Tryz.prog 8 #[.agg #[vn, vt], .agg #[.int .i64 3, .int .i64 node.id, .string node.kind, .slice Ar node.props.length cr, .string prop.name, .int .i64 prop.v.ty, .int .i64 prop.v.n, .string prop.v.s, .string tie.bond, .int .i64 tie.src, .int .i64 tie.dst]] w (RetGI w0 (doG g ⟨3, node, prop, tie⟩) (doE g ⟨3, node, prop, tie⟩) w) := by
  have hg := hgs.r hbw0
  have HGS := Lib.hid hgs
  have HBW := Lib.hid hbw0
  have hobase := ho
  have ho := hobase.below hbw0
  have HOB := Lib.hid hobase
  clear hobase hgs hbw0
  obtain ⟨A1, c1, rfl, _, _⟩ := hg.1.form
  obtain ⟨A2, c2, rfl, _, _⟩ := hg.2.form
  obtain ⟨W0, hW0⟩ : ∃ W0, W0 = (((w.alloc (.cells #[.slice A1 g.nodes.length c1, .slice A2 g.ties.length c2] 25)).alloc (.cells #[.int .i64 3, .int .i64 node.id, .string node.kind, .slice Ar node.props.length cr, .string prop.name, .int .i64 prop.v.ty, .int .i64 prop.v.n, .string prop.v.s, .string tie.bond, .int .i64 tie.src, .int .i64 tie.dst] 37)).alloc (.cells #[.slice none 0 0, .slice none 0 0] 25)).alloc (.cells #[.slice none 0 0, .slice none 0 0] 25) := ⟨_, rfl⟩
  have hb0 : Below w.heap.size w W0 := by rw [hW0]; exact ((((Below.refl _ _).alloc (Nat.le_refl _) _).alloc (by simp only [World.size_alloc]; omega) _).alloc (by simp only [World.size_alloc]; omega) _).alloc (by simp only [World.size_alloc]; omega) _
  have g0 : W0.heap[w.heap.size]? = some (.cells #[.slice A1 g.nodes.length c1, .slice A2 g.ties.length c2] 25 (0, 0)) := by
    rw [hW0, Below.heap_alloc _ _ _ (by simp only [World.size_alloc]; omega), Below.heap_alloc _ _ _ (by simp only [World.size_alloc]; omega), Below.heap_alloc _ _ _ (by simp only [World.size_alloc]; omega)]; exact heap_alloc_new _ _
  have g1 : W0.heap[w.heap.size + 1]? = some (.cells #[.int .i64 3, .int .i64 node.id, .string node.kind, .slice Ar node.props.length cr, .string prop.name, .int .i64 prop.v.ty, .int .i64 prop.v.n, .string prop.v.s, .string tie.bond, .int .i64 tie.src, .int .i64 tie.dst] 37 (0, 0)) := by
    have := heap_alloc_new (w.alloc (.cells #[.slice A1 g.nodes.length c1, .slice A2 g.ties.length c2] 25)) (.cells #[.int .i64 3, .int .i64 node.id, .string node.kind, .slice Ar node.props.length cr, .string prop.name, .int .i64 prop.v.ty, .int .i64 prop.v.n, .string prop.v.s, .string tie.bond, .int .i64 tie.src, .int .i64 tie.dst] 37); rw [hW0, Below.heap_alloc _ _ _ (by simp only [World.size_alloc]; omega), Below.heap_alloc _ _ _ (by simp only [World.size_alloc]; omega)]; simpa using this
  have g2 : W0.heap[w.heap.size + 1 + 1]? = some (.cells #[.slice none 0 0, .slice none 0 0] 25 (0, 0)) := by
    have := heap_alloc_new ((w.alloc (.cells #[.slice A1 g.nodes.length c1, .slice A2 g.ties.length c2] 25)).alloc (.cells #[.int .i64 3, .int .i64 node.id, .string node.kind, .slice Ar node.props.length cr, .string prop.name, .int .i64 prop.v.ty, .int .i64 prop.v.n, .string prop.v.s, .string tie.bond, .int .i64 tie.src, .int .i64 tie.dst] 37)) (.cells #[.slice none 0 0, .slice none 0 0] 25); rw [hW0, Below.heap_alloc _ _ _ (by simp only [World.size_alloc]; omega)]; simpa using this
  have g3 : W0.heap[w.heap.size + 1 + 1 + 1]? = some (.cells #[.slice none 0 0, .slice none 0 0] 25 (0, 0)) := by
    have := heap_alloc_new (((w.alloc (.cells #[.slice A1 g.nodes.length c1, .slice A2 g.ties.length c2] 25)).alloc (.cells #[.int .i64 3, .int .i64 node.id, .string node.kind, .slice Ar node.props.length cr, .string prop.name, .int .i64 prop.v.ty, .int .i64 prop.v.n, .string prop.v.s, .string tie.bond, .int .i64 tie.src, .int .i64 tie.dst] 37)).alloc (.cells #[.slice none 0 0, .slice none 0 0] 25)) (.cells #[.slice none 0 0, .slice none 0 0] 25); rw [hW0]; simpa using this
  have hW0' := hW0.symm
  have hw0 := hb0.size
  obtain ⟨b1, b2⟩ := set_parts g node prop tie h0
  have P1 := Lib.hid b1
  have P2 := Lib.hid b2
  obtain ⟨k1, k2, k3, k4⟩ := grf_ok h0
  have hx := rgfind_any g _ _ node.id W0 (hg.below hb0)
  rw [idx_nod k3] at hx
  have x0 := block_cell g0 0
  have x1 := block_cell g0 1
  have o0 := block_cell g1 0
  have o1 := block_cell g1 1
  have o2 := block_cell g1 2
  have o3 := block_cell g1 3
  have G0 := Lib.hid g0
  have G1 := Lib.hid g1
  have G2 := Lib.hid g2
  have G3 := Lib.hid g3
  have HGW := Lib.hid hg
  have HOW := Lib.hid ho
  have HG := Lib.hid (hg.below hb0)
  have HO := Lib.hid (ho.below hb0)
  have HFHL : Hid (fhas g.nodes node.id = true → fpos g.nodes node.id < g.nodes.length) := fun h => by obtain ⟨n, hn⟩ := fhas_some' h; exact (List.getElem?_eq_some_iff.1 hn).1
  generalize hfz : (if fhas g.nodes node.id = true then (fpos g.nodes node.id : Int) else -1) = fz at *
  have HFZ := Lib.hid hfz
  clear hg ho g0 g1 g2 g3 hW0 hfz
  go_enter Tryz.func8, Tryz.ntmps8
  go_wp2_with fail
  clear hW0'
  refine hx.mono ?_
  clear hx
  rintro e w1 ⟨rfl, hb1⟩
  have hB1 := hb0.trans (hb1.mono hw0)
  have m0 := (hb1.block _ (Array.getElem?_eq_some_iff.1 G0.out).1).trans G0.out
  have m1 := (hb1.block _ (Array.getElem?_eq_some_iff.1 G1.out).1).trans G1.out
  have m2 := (hb1.block _ (Array.getElem?_eq_some_iff.1 G2.out).1).trans G2.out
  have m3 := (hb1.block _ (Array.getElem?_eq_some_iff.1 G3.out).1).trans G3.out
  have x0 := block_cell m0 0
  have x1 := block_cell m0 1
  have o0 := block_cell m1 0
  have o1 := block_cell m1 1
  clear m0
  generalize doE g ⟨3, node, prop, tie⟩ = de at *
  generalize doG g ⟨3, node, prop, tie⟩ = dg at *
  have HK1 := Lib.hid k1
  clear b1 b2 k3 k4
  cases hf : fhas g.nodes node.id with
  | false =>
    have HE := Lib.hid (P1.out hf)
    have hz : fz = -1 := by rw [← HFZ.out, hf]; rfl
    subst hz
    have hB2 := hB1
    clear hf HFZ P1 P2 HFHL
    have a0 := block_free m2 0
    have a1 := block_free m2 1
    have a2 := block_cell m2 0
    have a3 := block_cell m2 1
    have y0 := block_cell m3 0
    have y1 := block_cell m3 1
    have s2 := setCell_block (setCell_block m2 0 (.slice none 0 0)) 1 (.slice none 0 0)
    have hbX := (hB2.setCell (p := ⟨w.heap.size + 1 + 1, 0, none⟩) (by show w.heap.size ≤ w.heap.size + 1 + 1; omega) (.slice none 0 0)).setCell (p := ⟨w.heap.size + 1 + 1, 1, none⟩) (by show w.heap.size ≤ w.heap.size + 1 + 1; omega) (.slice none 0 0)
    have HS2 := Lib.hid s2
    clear s2 m2 m3
    go_wp2_with fail
    have k2' := block_cell HS2.out 0
    have k3' := block_cell HS2.out 1
    exact bodyPost_ret (v := .tuple #[.agg #[.slice none 0 0, .slice none 0 0], .int .i64 (5)]) (by simp [results, Tryz.results8, go_sem, k2', k3']) rfl
      ⟨_, _, by rw [HE.out.1], by rw [HE.out.2]; exact ⟨SlS.nil _ _, SlS.nil _ _⟩, hbX⟩
  | true =>
    obtain ⟨n, hn⟩ := fhas_some' hf
    have HE2 := Lib.hid (P2.out n hn hf)
    have hz : fz = (fpos g.nodes node.id : Int) := by rw [← HFZ.out, hf]; rfl
    subst hz
    have hkl := HFHL.out hf
    -- the row's cells: 1: which part; nodL: its Lay
    obtain ⟨Arow, crow, xs, hvrow, _, _, hxall⟩ := HGS.out.1
    cases hvrow
    have hxs0 := hxall w (Stay.refl HBW.out)
    have HXR := Lib.hid hxs0.1
    have HXC := Lib.hid hxs0.2
    have HXS : Hid (∀ W', Stay w0 w W' → Row nodL W' _ xs) := fun W' hW => (hxall W' hW).1
    clear hxs0 hxall
    obtain ⟨n0, ni, nz, nz1, nz2⟩ := info_parts nodT_info
    obtain ⟨B, hBe⟩ : ∃ B, B = W0.heap.size := ⟨_, rfl⟩
    have HRN : Hid (recE n.props = 0) := grf_rec h0 hn
    have HNN := Lib.hid hn
    have hr3 : RdS w W0 (w.heap.size + 1 + 1 + 1) w1 (.slice none 0 0) (.slice none 0 0) := ⟨(Kp.refl _ _).below hb1, hB1, m3, by omega⟩
    have HR0 := Lib.hid hr3
    have y0 := block_cell m3 0
    have y1 := block_cell m3 1
    obtain ⟨gb, oo, hA, u, hid, hsm, hus, q0, q1, q2⟩ := nod_at (HG.out.below hb1).1 hn
    subst hA
    obtain ⟨Au, cu, rfl, _, _⟩ := hus.form
    have HUS := Lib.hid hus
    have HIS : Hid (I64 n.id ∧ Sm n.kind) := ⟨hid, hsm⟩
    clear m2 m3 m1 hf HFZ P1 P2 HFHL hr3 hn hus hid hsm h0
    generalize fpos g.nodes node.id = k at *
    have hk0 : ¬ (k : Int) < 0 := by omega
    have hk1 : (0 : Int) ≤ (k : Int) := by omega
    have hkc2 : (k : Int) < (g.nodes.length : Int) := by omega
    go_upto_region 36 with fail
    have hal : Below w1.heap.size w1 (w1.alloc (.cells #[.int .i64 n.id, .string n.kind, .slice Au n.props.length cu] 29)) := (Below.refl _ _).alloc (Nat.le_refl _) _
    have n3 := heap_alloc_new w1 (.cells #[.int .i64 n.id, .string n.kind, .slice Au n.props.length cu] 29)
    have HR3 := Lib.hid (HR0.out.below hal)
    have HUS3 := Lib.hid (HUS.out.below hal)
    have hnb1 : W0.heap.size ≤ w1.heap.size := HR0.out.k.s
    have hnb2 : w1.heap.size ≠ w.heap.size + 1 + 1 + 1 := fun e => by
      have h1 := (Array.getElem?_eq_some_iff.1 HR0.out.q).1
      omega
    have HNB : Hid (W0.heap.size ≤ w1.heap.size ∧ w1.heap.size ≠ w.heap.size + 1 + 1 + 1) := ⟨hnb1, hnb2⟩
    clear hnb1 hnb2 hal x0 x1 o0 o1 y0 y1 q0 q1 q2 hb1 hB1 HR0 HUS
    obtain ⟨nb, hnb⟩ : ∃ nb, nb = w1.heap.size := ⟨_, rfl⟩
    rw [← hnb] at n3 HNB
    rw [← hnb]
    clear hnb
    generalize w1.alloc (.cells #[.int .i64 n.id, .string n.kind, .slice Au n.props.length cu] 29) = w3 at *
    have z2 := block_cell n3 2
    have q1 := HR3.out.old G1.out (by omega)
    have o0 := block_cell q1 0
    have o4 := block_cell q1 4
    have o5 := block_cell q1 5
    have o6 := block_cell q1 6
    have o7 := block_cell q1 7
    have hx := rset_any n.props prop (.slice Au n.props.length cu) w3 HUS3.out HO.out.p HRN.out
    have HN3 := Lib.hid n3
    clear n3 q1
    go_wp2_with fail
    refine hx.mono ?_
    clear hx
    rintro e w4 ⟨vr, rfl, hvr, hb4⟩
    have HR4 := Lib.hid (HR3.out.below hb4)
    have HN4 := Lib.hid ((hb4.block _ (Array.getElem?_eq_some_iff.1 HN3.out).1).trans HN3.out)
    clear o0 o4 o5 o6 o7 z2
    have q1 := HR4.out.old G1.out (by omega)
    have o0 := block_cell q1 0
    have o4 := block_cell q1 4
    have z2 := block_cell HN4.out 2
    have y0 := block_cell HR4.out.q 0
    have y1 := block_cell HR4.out.q 1
    clear q1
    obtain ⟨Ar2, cr2, hvq, _, _⟩ := hvr.1.form
    subst hvq
    generalize setE n.props prop = se at *
    generalize setR n.props prop = rr at *
    by_cases hse : se = 0
    case neg =>
      have hsb : (se != 0) = true := by simpa using hse
      have HE := Lib.hid (HE2.out.1 hse)
      have m2 := HR4.out.old G2.out (by omega)
      have m3 := HR4.out.q
      have hB2 := HR4.out.b
      clear hse HE2 hvr hb4
      have a0 := block_free m2 0
      have a1 := block_free m2 1
      have a2 := block_cell m2 0
      have a3 := block_cell m2 1
      have y0 := block_cell m3 0
      have y1 := block_cell m3 1
      have s2 := setCell_block (setCell_block m2 0 (.slice none 0 0)) 1 (.slice none 0 0)
      have hbX := (hB2.setCell (p := ⟨w.heap.size + 1 + 1, 0, none⟩) (by show w.heap.size ≤ w.heap.size + 1 + 1; omega) (.slice none 0 0)).setCell (p := ⟨w.heap.size + 1 + 1, 1, none⟩) (by show w.heap.size ≤ w.heap.size + 1 + 1; omega) (.slice none 0 0)
      have HS2 := Lib.hid s2
      clear s2 m2 m3
      go_wp2_with fail
      have k2' := block_cell HS2.out 0
      have k3' := block_cell HS2.out 1
      exact bodyPost_ret (v := .tuple #[.agg #[.slice none 0 0, .slice none 0 0], .int .i64 (se)]) (by simp [results, Tryz.results8, go_sem, k2', k3']) rfl
        ⟨_, _, by rw [HE.out.1], by rw [HE.out.2]; exact ⟨SlS.nil _ _, SlS.nil _ _⟩, hbX⟩
    have HE := Lib.hid (HE2.out.2 hse)
    subst hse
    have HVR := Lib.hid hvr
    clear HE2 hvr hb4
    -- the record is another one: Ar2 rr.length cr2: its value's place and length and room; rr: the record; the world is w4; HVR: it is the call's own
    have zf := block_free HN4.out 2
    go_upto_region 46 with fail
    have HR5 := Lib.hid (HR4.out.cellAt (p := ⟨nb, 2, none⟩) HNB.out.1 HNB.out.2 hw0 (.slice Ar2 rr.length cr2))
    have HN5 := Lib.hid (setCell_block HN4.out 2 (.slice Ar2 rr.length cr2))
    have hvr5 := (HVR.out.1).same (Same.setCell (p := ⟨nb, 2, none⟩) HN4.out (T := 33) (by decide) (.slice Ar2 rr.length cr2))
    have HB5 : Hid (w4.heap.size ≤ (w4.setCell ⟨nb, 2, none⟩ (.slice Ar2 rr.length cr2)).heap.size) := by unfold Hid; simp [World.setCell]
    clear z2 zf y0 y1 o0 o4
    generalize w4.setCell ⟨nb, 2, none⟩ (.slice Ar2 rr.length cr2) = w5 at *
    have HVO := HVR.out.2
    have HV5 := Lib.hid hvr5
    clear hvr5 HR4 HN4 HVR
    have q0 := HR5.out.old G0.out (by omega)
    have x0 := block_cell q0 0
    have y0 := block_cell HR5.out.q 0
    have HR := HR5
    have HOA : Hid (Own w5 B 29 3 (.slice none 0 0) 0 []) := Own.nil _ _ _ _
    have HBZ : Hid (B ≤ w5.heap.size) := by unfold Hid; rw [hBe]; exact HR.out.k.s
    have hxl : xs.length = g.nodes.length * 3 := HXR.out.len
    have HNW : Hid (0 < g.nodes.length → ∃ a, some (⟨gb, oo, none⟩ : Addr) = some a ∧ ∀ j u, xs[j]? = some u → w5.cell? (a.add j) = some u) := fun h => by
      obtain ⟨b, o, hA, hc⟩ := HXC.out h
      exact ⟨⟨b, o, none⟩, hA, fun j u hj => by rw [addr_add]; exact cell_below HR.out.b (hc j u hj)⟩
    have HONE : Hid (∀ u ∈ xs, u.oneCell' = true) := HXR.out.oneCell one_nod
    have HXL := Lib.hid hxl
    clear q0 hxl
    go_upto_region 47 with (first
      | (at_builtin; refine wpList_append_q _ rfl (.tmp 199) (.tmp 201) _ rfl B 29 n0 (.agg #[.int .i64 0, .string .empty, .slice none 0 0]) 3 48 Tryz.underlying22 ni nz nz1 nz2 rfl (by decide) (.slice none 0 0) 0 [] rfl HOA.out (some ⟨gb, oo, none⟩) g.nodes.length c1 xs rfl HXL.out HNW.out HONE.out (by unfold maxLen; omega) (by omega) HBZ.out ?_; intro v7 w7 hown7 hg7 hat7
         have hr7 := HR.out.grown (by rw [← hBe]; exact HOA.out) hw0 (by decide) hg7
         have f0 := block_free hr7.q 0
         have r0 := block_cell hr7.q 0
         obtain ⟨A7, c7, hv7, _, _⟩ := hown7.form
         subst hv7))
    have n7 := grown_block hg7 HN5.out (by simp [Value.ownBlock])
    have hv7 := HV5.out.same (Same.grown HOA.out (by decide) hg7)
    have HB7 : Hid (w5.heap.size ≤ w7.heap.size) := hg7.size
    have n8 : (w7.setCell ⟨w.heap.size + 1 + 1 + 1, 0, none⟩ (.slice A7 g.nodes.length c7)).heap[nb]? = _ := (Below.heap_setCell w7 ⟨w.heap.size + 1 + 1 + 1, 0, none⟩ (.slice A7 g.nodes.length c7) nb HNB.out.2).trans n7
    have hv8 := hv7.same (hr7.same 0 (.slice A7 g.nodes.length c7) (T := 33) (by decide))
    clear n7 hv7
    -- behind an append that is stored at the nodes: g.nodes.length: how many there are as go writes it
    have HR2 := Lib.hid (hr7.setN (.slice A7 (g.nodes.length) c7))
    have hoa2 := hown7.same (hr7.same 0 (.slice A7 (g.nodes.length) c7) (T := 29) (by decide))
    clear f0 r0 hr7 hown7 hg7 hat7 HR HOA HNW
    generalize w7.setCell ⟨w.heap.size + 1 + 1 + 1, 0, none⟩ (.slice A7 (g.nodes.length) c7) = w8 at *
    have HB8 : Hid (B ≤ w8.heap.size) := by unfold Hid; rw [hBe]; exact HR2.out.k.s
    rw [Nat.zero_add, List.nil_append] at hoa2
    obtain ⟨ga, oa, ca, hva, hga1, hga2⟩ := hoa2.addr (by omega)
    cases hva
    have hne := hoa2.ne_block HR2.out.q (by decide)
    have HNEB : Hid (ga ≠ w.heap.size + 1 + 1 + 1) := fun e => hne (by rw [e]; rfl)
    have y0 := block_cell HR2.out.q 0
    have z0 := block_cell n8 0
    have z1 := block_cell n8 1
    have z2 := block_cell n8 2
    obtain ⟨cs, ⟨v9, rfl, _⟩, hcs⟩ := HXR.out.get HNN.out
    have c0 : w8.cell? ⟨ga, oa + k * 3, none⟩ = some (.int .i64 n.id) := hoa2.cell rfl (hcs 0 _ rfl)
    have c1' : w8.cell? ⟨ga, oa + k * 3 + 1, none⟩ = some (.string n.kind) := hoa2.cell rfl (hcs 1 _ rfl)
    have c2' : w8.cell? ⟨ga, oa + k * 3 + 2, none⟩ = some v9 := hoa2.cell rfl (hcs 2 _ rfl)
    have f0 := hoa2.frozen rfl (oa + k * 3)
    have f1 := hoa2.frozen rfl (oa + k * 3 + 1)
    have f2 := hoa2.frozen rfl (oa + k * 3 + 2)
    have hkx : k * 3 + 2 < g.nodes.length * 3 := by omega
    clear hcs hne
    -- the node is stored; the ties too; Ar2 rr.length cr2: the record's value; rr: the record
    go_upto_region 48 with fail
    have s1 := hoa2.store (k * 3) (by omega) (.int .i64 n.id)
    have s2 := s1.store (k * 3 + 1) (by omega) (.string n.kind)
    have s3 : Own (((w8.setCell ⟨ga, oa + k * 3, none⟩ (.int .i64 n.id)).setCell ⟨ga, oa + k * 3 + 1, none⟩ (.string n.kind)).setCell ⟨ga, oa + k * 3 + 2, none⟩ (.slice Ar2 rr.length cr2)) B 29 3 (.slice (some ⟨ga, oa, none⟩) g.nodes.length c7) g.nodes.length (((xs.set (k * 3) (.int .i64 n.id)).set (k * 3 + 1) (.string n.kind)).set (k * 3 + 2) (.slice Ar2 rr.length cr2)) := s2.store (k * 3 + 2) (by omega) (.slice Ar2 rr.length cr2)
    have r3 : RdS w W0 (w.heap.size + 1 + 1 + 1) (((w8.setCell ⟨ga, oa + k * 3, none⟩ (.int .i64 n.id)).setCell ⟨ga, oa + k * 3 + 1, none⟩ (.string n.kind)).setCell ⟨ga, oa + k * 3 + 2, none⟩ (.slice Ar2 rr.length cr2)) (.slice (some ⟨ga, oa, none⟩) g.nodes.length c7) (.slice none 0 0) := ((HR2.out.cellAt (p := ⟨ga, oa + k * 3, none⟩) (by rw [← hBe]; exact hga1) HNEB.out hw0 (.int .i64 n.id)).cellAt (p := ⟨ga, oa + k * 3 + 1, none⟩) (by rw [← hBe]; exact hga1) HNEB.out hw0 (.string n.kind)).cellAt (p := ⟨ga, oa + k * 3 + 2, none⟩) (by rw [← hBe]; exact hga1) HNEB.out hw0 (.slice Ar2 rr.length cr2)
    have v3 : Own (((w8.setCell ⟨ga, oa + k * 3, none⟩ (.int .i64 n.id)).setCell ⟨ga, oa + k * 3 + 1, none⟩ (.string n.kind)).setCell ⟨ga, oa + k * 3 + 2, none⟩ (.slice Ar2 rr.length cr2)) _ 33 4 (.slice Ar2 rr.length cr2) (rr).length ((rr).flatMap Prp.enc) := ((hv8.same (Same.cellOf (T := 33) hoa2 (by decide) (oa + k * 3) (.int .i64 n.id))).same (Same.cellOf (T := 33) s1 (by decide) (oa + k * 3 + 1) (.string n.kind))).same (Same.cellOf (T := 33) s2 (by decide) (oa + k * 3 + 2) (.slice Ar2 rr.length cr2))
    have HR3 := Lib.hid r3
    have HOA := Lib.hid s3
    have HVW := Lib.hid v3
    clear s1 s2 s3 r3 v3 hoa2 hv8 n8 z0 z1 z2 c0 c1' c2' f0 f1 f2 y0 HR2 hga1 hga2 HNEB HB8
    have HR2 := HR3
    clear HR3
    generalize ((w8.setCell ⟨ga, oa + k * 3, none⟩ (.int .i64 n.id)).setCell ⟨ga, oa + k * 3 + 1, none⟩ (.string n.kind)).setCell ⟨ga, oa + k * 3 + 2, none⟩ (.slice Ar2 rr.length cr2) = w8 at *
    have q0 := HR2.out.old G0.out (by omega)
    have x1 := block_cell q0 1
    have y1 := block_cell HR2.out.q 1
    have f1 := block_free HR2.out.q 1
    clear q0
    go_upto_region 49 with fail
    have HR := HR2
    clear HR2
    have HR2 := Lib.hid (HR.out.setT (.slice A2 g.ties.length c2))
    have hoa3 := Lib.hid (HOA.out.same (HR.out.same 1 (.slice A2 g.ties.length c2) (T := 29) (by decide)))
    have hvw3 := Lib.hid (HVW.out.same (HR.out.same 1 (.slice A2 g.ties.length c2) (T := 33) (by decide)))
    clear HOA HVW HR x1 y1 f1
    generalize w8.setCell ⟨w.heap.size + 1 + 1 + 1, 1, none⟩ (.slice A2 g.ties.length c2) = w8 at *
    -- the box that was built is the result: .slice (some ⟨ga, oa, none⟩) g.nodes.length c7, .slice A2 g.ties.length c2: its values; 0: the fault; ⟨Own.slS (L := nodL) (by rw [List.length_set]; exact hoa3.out.same (HSM.out (by decide))) (by decide) (fun W' hW => Row.put3 (d' := ⟨n.id, n.kind, rr⟩) (a := .int .i64 n.id) (b := .string n.kind) (c := .slice Ar2 rr.length cr2) ⟨.slice Ar2 rr.length cr2, rfl, HIS.out.1, HIS.out.2, ((hvw3.out.same (HSM.out (by decide))).same (hW.2 _ (by decide))).prps HVO⟩ (HXS.out W' (HST.out W' hW)) HNN.out), HGS.out.2.stay HST.out⟩: its nodes and ties read so
    have m2 := HR2.out.old G2.out (by omega)
    have a0 := block_free m2 0
    have a1 := block_free m2 1
    have a2 := block_cell m2 0
    have a3 := block_cell m2 1
    have y0 := block_cell HR2.out.q 0
    have y1 := block_cell HR2.out.q 1
    have s2 := setCell_block (setCell_block m2 0 (.slice (some ⟨ga, oa, none⟩) g.nodes.length c7)) 1 (.slice A2 g.ties.length c2)
    have hbX := (HR2.out.b.setCell (p := ⟨w.heap.size + 1 + 1, 0, none⟩) (by show w.heap.size ≤ w.heap.size + 1 + 1; omega) (.slice (some ⟨ga, oa, none⟩) g.nodes.length c7)).setCell (p := ⟨w.heap.size + 1 + 1, 1, none⟩) (by show w.heap.size ≤ w.heap.size + 1 + 1; omega) (.slice A2 g.ties.length c2)
    have HS2 := Lib.hid s2
    have HSM : Hid (∀ {T : TypeId}, 25 ≠ T → Same T w8 ((w8.setCell ⟨w.heap.size + 1 + 1, 0, none⟩ (.slice (some ⟨ga, oa, none⟩) g.nodes.length c7)).setCell ⟨w.heap.size + 1 + 1, 1, none⟩ (.slice A2 g.ties.length c2))) := fun hT => (Same.setCell (p := ⟨w.heap.size + 1 + 1, 0, none⟩) m2 hT (.slice (some ⟨ga, oa, none⟩) g.nodes.length c7)).trans (Same.setCell (p := ⟨w.heap.size + 1 + 1, 1, none⟩) (setCell_block m2 0 (.slice (some ⟨ga, oa, none⟩) g.nodes.length c7)) hT (.slice A2 g.ties.length c2))
    have HBX := Lib.hid hbX
    have HST : Hid (∀ W', Stay w0 ((w8.setCell ⟨w.heap.size + 1 + 1, 0, none⟩ (.slice (some ⟨ga, oa, none⟩) g.nodes.length c7)).setCell ⟨w.heap.size + 1 + 1, 1, none⟩ (.slice A2 g.ties.length c2)) W' → Stay w0 w W') := fun W' hW => hW.from HBX.out
    clear s2 m2 hbX
    go_wp2_with fail
    have k2' := block_cell HS2.out 0
    have k3' := block_cell HS2.out 1
    refine bodyPost_ret (v := .tuple #[.agg #[.slice (some ⟨ga, oa, none⟩) g.nodes.length c7, .slice A2 g.ties.length c2], .int .i64 (0)]) (by simp [results, Tryz.results8, go_sem, k2', k3']) rfl
      ⟨_, _, by rw [HE.out.1], by rw [HE.out.2]; exact ⟨Own.slS (L := nodL) (by rw [List.length_set]; exact hoa3.out.same (HSM.out (by decide))) (by decide) (fun W' hW => Row.put3 (d' := ⟨n.id, n.kind, rr⟩) (a := .int .i64 n.id) (b := .string n.kind) (c := .slice Ar2 rr.length cr2) ⟨.slice Ar2 rr.length cr2, rfl, HIS.out.1, HIS.out.2, ((hvw3.out.same (HSM.out (by decide))).same (hW.2 _ (by decide))).prps HVO⟩ (HXS.out W' (HST.out W' hW)) HNN.out), HGS.out.2.stay HST.out⟩, HBX.out⟩
set_option maxRecDepth 100000 in
set_option maxHeartbeats 32000000 in
theorem rdo_unset (g : Grf) (node : Nod) (prop : Prp) (tie : Tie) (vn vt : Value) (Ar : Option Addr) (cr : Nat) (w0 w : World) (hbw0 : Below w0.heap.size w0 w) (hgs : GrfS w0 w vn vt g) (ho : OprR w0 (.slice Ar node.props.length cr) ⟨4, node, prop, tie⟩) (h0 : grfE g = 0) :
    Calls Tryz.prog 8 #[.agg #[vn, vt], .agg #[.int .i64 4, .int .i64 node.id, .string node.kind, .slice Ar node.props.length cr, .string prop.name, .int .i64 prop.v.ty, .int .i64 prop.v.n, .string prop.v.s, .string tie.bond, .int .i64 tie.src, .int .i64 tie.dst]] w (RetGI w0 (doG g ⟨4, node, prop, tie⟩) (doE g ⟨4, node, prop, tie⟩) w) := by
  have hg := hgs.r hbw0
  have HGS := Lib.hid hgs
  have HBW := Lib.hid hbw0
  have hobase := ho
  have ho := hobase.below hbw0
  have HOB := Lib.hid hobase
  clear hobase hgs hbw0
  obtain ⟨A1, c1, rfl, _, _⟩ := hg.1.form
  obtain ⟨A2, c2, rfl, _, _⟩ := hg.2.form
  obtain ⟨W0, hW0⟩ : ∃ W0, W0 = (((w.alloc (.cells #[.slice A1 g.nodes.length c1, .slice A2 g.ties.length c2] 25)).alloc (.cells #[.int .i64 4, .int .i64 node.id, .string node.kind, .slice Ar node.props.length cr, .string prop.name, .int .i64 prop.v.ty, .int .i64 prop.v.n, .string prop.v.s, .string tie.bond, .int .i64 tie.src, .int .i64 tie.dst] 37)).alloc (.cells #[.slice none 0 0, .slice none 0 0] 25)).alloc (.cells #[.slice none 0 0, .slice none 0 0] 25) := ⟨_, rfl⟩
  have hb0 : Below w.heap.size w W0 := by rw [hW0]; exact ((((Below.refl _ _).alloc (Nat.le_refl _) _).alloc (by simp only [World.size_alloc]; omega) _).alloc (by simp only [World.size_alloc]; omega) _).alloc (by simp only [World.size_alloc]; omega) _
  have g0 : W0.heap[w.heap.size]? = some (.cells #[.slice A1 g.nodes.length c1, .slice A2 g.ties.length c2] 25 (0, 0)) := by
    rw [hW0, Below.heap_alloc _ _ _ (by simp only [World.size_alloc]; omega), Below.heap_alloc _ _ _ (by simp only [World.size_alloc]; omega), Below.heap_alloc _ _ _ (by simp only [World.size_alloc]; omega)]; exact heap_alloc_new _ _
  have g1 : W0.heap[w.heap.size + 1]? = some (.cells #[.int .i64 4, .int .i64 node.id, .string node.kind, .slice Ar node.props.length cr, .string prop.name, .int .i64 prop.v.ty, .int .i64 prop.v.n, .string prop.v.s, .string tie.bond, .int .i64 tie.src, .int .i64 tie.dst] 37 (0, 0)) := by
    have := heap_alloc_new (w.alloc (.cells #[.slice A1 g.nodes.length c1, .slice A2 g.ties.length c2] 25)) (.cells #[.int .i64 4, .int .i64 node.id, .string node.kind, .slice Ar node.props.length cr, .string prop.name, .int .i64 prop.v.ty, .int .i64 prop.v.n, .string prop.v.s, .string tie.bond, .int .i64 tie.src, .int .i64 tie.dst] 37); rw [hW0, Below.heap_alloc _ _ _ (by simp only [World.size_alloc]; omega), Below.heap_alloc _ _ _ (by simp only [World.size_alloc]; omega)]; simpa using this
  have g2 : W0.heap[w.heap.size + 1 + 1]? = some (.cells #[.slice none 0 0, .slice none 0 0] 25 (0, 0)) := by
    have := heap_alloc_new ((w.alloc (.cells #[.slice A1 g.nodes.length c1, .slice A2 g.ties.length c2] 25)).alloc (.cells #[.int .i64 4, .int .i64 node.id, .string node.kind, .slice Ar node.props.length cr, .string prop.name, .int .i64 prop.v.ty, .int .i64 prop.v.n, .string prop.v.s, .string tie.bond, .int .i64 tie.src, .int .i64 tie.dst] 37)) (.cells #[.slice none 0 0, .slice none 0 0] 25); rw [hW0, Below.heap_alloc _ _ _ (by simp only [World.size_alloc]; omega)]; simpa using this
  have g3 : W0.heap[w.heap.size + 1 + 1 + 1]? = some (.cells #[.slice none 0 0, .slice none 0 0] 25 (0, 0)) := by
    have := heap_alloc_new (((w.alloc (.cells #[.slice A1 g.nodes.length c1, .slice A2 g.ties.length c2] 25)).alloc (.cells #[.int .i64 4, .int .i64 node.id, .string node.kind, .slice Ar node.props.length cr, .string prop.name, .int .i64 prop.v.ty, .int .i64 prop.v.n, .string prop.v.s, .string tie.bond, .int .i64 tie.src, .int .i64 tie.dst] 37)).alloc (.cells #[.slice none 0 0, .slice none 0 0] 25)) (.cells #[.slice none 0 0, .slice none 0 0] 25); rw [hW0]; simpa using this
  have hW0' := hW0.symm
  have hw0 := hb0.size
  obtain ⟨b1, b2⟩ := unset_parts g node prop tie h0
  have P1 := Lib.hid b1
  have P2 := Lib.hid b2
  obtain ⟨k1, k2, k3, k4⟩ := grf_ok h0
  have hx := rgfind_any g _ _ node.id W0 (hg.below hb0)
  rw [idx_nod k3] at hx
  have x0 := block_cell g0 0
  have x1 := block_cell g0 1
  have o0 := block_cell g1 0
  have o1 := block_cell g1 1
  have o2 := block_cell g1 2
  have o3 := block_cell g1 3
  have G0 := Lib.hid g0
  have G1 := Lib.hid g1
  have G2 := Lib.hid g2
  have G3 := Lib.hid g3
  have HGW := Lib.hid hg
  have HOW := Lib.hid ho
  have HG := Lib.hid (hg.below hb0)
  have HO := Lib.hid (ho.below hb0)
  have HFHL : Hid (fhas g.nodes node.id = true → fpos g.nodes node.id < g.nodes.length) := fun h => by obtain ⟨n, hn⟩ := fhas_some' h; exact (List.getElem?_eq_some_iff.1 hn).1
  generalize hfz : (if fhas g.nodes node.id = true then (fpos g.nodes node.id : Int) else -1) = fz at *
  have HFZ := Lib.hid hfz
  clear hg ho g0 g1 g2 g3 hW0 hfz
  go_enter Tryz.func8, Tryz.ntmps8
  go_wp2_with fail
  clear hW0'
  refine hx.mono ?_
  clear hx
  rintro e w1 ⟨rfl, hb1⟩
  have hB1 := hb0.trans (hb1.mono hw0)
  have m0 := (hb1.block _ (Array.getElem?_eq_some_iff.1 G0.out).1).trans G0.out
  have m1 := (hb1.block _ (Array.getElem?_eq_some_iff.1 G1.out).1).trans G1.out
  have m2 := (hb1.block _ (Array.getElem?_eq_some_iff.1 G2.out).1).trans G2.out
  have m3 := (hb1.block _ (Array.getElem?_eq_some_iff.1 G3.out).1).trans G3.out
  have x0 := block_cell m0 0
  have x1 := block_cell m0 1
  have o0 := block_cell m1 0
  have o1 := block_cell m1 1
  clear m0
  generalize doE g ⟨4, node, prop, tie⟩ = de at *
  generalize doG g ⟨4, node, prop, tie⟩ = dg at *
  have HK1 := Lib.hid k1
  clear b1 b2 k3 k4
  cases hf : fhas g.nodes node.id with
  | false =>
    have HE := Lib.hid (P1.out hf)
    have hz : fz = -1 := by rw [← HFZ.out, hf]; rfl
    subst hz
    have hB2 := hB1
    clear hf HFZ P1 P2 HFHL
    have a0 := block_free m2 0
    have a1 := block_free m2 1
    have a2 := block_cell m2 0
    have a3 := block_cell m2 1
    have y0 := block_cell m3 0
    have y1 := block_cell m3 1
    have s2 := setCell_block (setCell_block m2 0 (.slice none 0 0)) 1 (.slice none 0 0)
    have hbX := (hB2.setCell (p := ⟨w.heap.size + 1 + 1, 0, none⟩) (by show w.heap.size ≤ w.heap.size + 1 + 1; omega) (.slice none 0 0)).setCell (p := ⟨w.heap.size + 1 + 1, 1, none⟩) (by show w.heap.size ≤ w.heap.size + 1 + 1; omega) (.slice none 0 0)
    have HS2 := Lib.hid s2
    clear s2 m2 m3
    go_wp2_with fail
    have k2' := block_cell HS2.out 0
    have k3' := block_cell HS2.out 1
    exact bodyPost_ret (v := .tuple #[.agg #[.slice none 0 0, .slice none 0 0], .int .i64 (5)]) (by simp [results, Tryz.results8, go_sem, k2', k3']) rfl
      ⟨_, _, by rw [HE.out.1], by rw [HE.out.2]; exact ⟨SlS.nil _ _, SlS.nil _ _⟩, hbX⟩
  | true =>
    obtain ⟨n, hn⟩ := fhas_some' hf
    have HE2 := Lib.hid (P2.out n hn hf)
    have hz : fz = (fpos g.nodes node.id : Int) := by rw [← HFZ.out, hf]; rfl
    subst hz
    have hkl := HFHL.out hf
    -- the row's cells: 1: which part; nodL: its Lay
    obtain ⟨Arow, crow, xs, hvrow, _, _, hxall⟩ := HGS.out.1
    cases hvrow
    have hxs0 := hxall w (Stay.refl HBW.out)
    have HXR := Lib.hid hxs0.1
    have HXC := Lib.hid hxs0.2
    have HXS : Hid (∀ W', Stay w0 w W' → Row nodL W' _ xs) := fun W' hW => (hxall W' hW).1
    clear hxs0 hxall
    obtain ⟨n0, ni, nz, nz1, nz2⟩ := info_parts nodT_info
    obtain ⟨B, hBe⟩ : ∃ B, B = W0.heap.size := ⟨_, rfl⟩
    have HRN : Hid (recE n.props = 0) := grf_rec h0 hn
    have HNN := Lib.hid hn
    have hr3 : RdS w W0 (w.heap.size + 1 + 1 + 1) w1 (.slice none 0 0) (.slice none 0 0) := ⟨(Kp.refl _ _).below hb1, hB1, m3, by omega⟩
    have HR0 := Lib.hid hr3
    have y0 := block_cell m3 0
    have y1 := block_cell m3 1
    obtain ⟨gb, oo, hA, u, hid, hsm, hus, q0, q1, q2⟩ := nod_at (HG.out.below hb1).1 hn
    subst hA
    obtain ⟨Au, cu, rfl, _, _⟩ := hus.form
    have HUS := Lib.hid hus
    have HIS : Hid (I64 n.id ∧ Sm n.kind) := ⟨hid, hsm⟩
    clear m2 m3 m1 hf HFZ P1 P2 HFHL hr3 hn hus hid hsm h0
    generalize fpos g.nodes node.id = k at *
    have hk0 : ¬ (k : Int) < 0 := by omega
    have hk1 : (0 : Int) ≤ (k : Int) := by omega
    have hkc2 : (k : Int) < (g.nodes.length : Int) := by omega
    go_upto_region 36 with fail
    have hal : Below w1.heap.size w1 (w1.alloc (.cells #[.int .i64 n.id, .string n.kind, .slice Au n.props.length cu] 29)) := (Below.refl _ _).alloc (Nat.le_refl _) _
    have n3 := heap_alloc_new w1 (.cells #[.int .i64 n.id, .string n.kind, .slice Au n.props.length cu] 29)
    have HR3 := Lib.hid (HR0.out.below hal)
    have HUS3 := Lib.hid (HUS.out.below hal)
    have hnb1 : W0.heap.size ≤ w1.heap.size := HR0.out.k.s
    have hnb2 : w1.heap.size ≠ w.heap.size + 1 + 1 + 1 := fun e => by
      have h1 := (Array.getElem?_eq_some_iff.1 HR0.out.q).1
      omega
    have HNB : Hid (W0.heap.size ≤ w1.heap.size ∧ w1.heap.size ≠ w.heap.size + 1 + 1 + 1) := ⟨hnb1, hnb2⟩
    clear hnb1 hnb2 hal x0 x1 o0 o1 y0 y1 q0 q1 q2 hb1 hB1 HR0 HUS
    obtain ⟨nb, hnb⟩ : ∃ nb, nb = w1.heap.size := ⟨_, rfl⟩
    rw [← hnb] at n3 HNB
    rw [← hnb]
    clear hnb
    generalize w1.alloc (.cells #[.int .i64 n.id, .string n.kind, .slice Au n.props.length cu] 29) = w3 at *
    have z2 := block_cell n3 2
    have q1 := HR3.out.old G1.out (by omega)
    have o0 := block_cell q1 0
    have o4 := block_cell q1 4
    have o5 := block_cell q1 5
    have o6 := block_cell q1 6
    have o7 := block_cell q1 7
    have hx := rset_any n.props prop (.slice Au n.props.length cu) w3 HUS3.out HO.out.p HRN.out
    have HN3 := Lib.hid n3
    clear n3 q1
    go_wp2_with fail
    refine hx.mono ?_
    clear hx
    rintro e w4 ⟨vr, rfl, hvr, hb4⟩
    have HR4 := Lib.hid (HR3.out.below hb4)
    have HN4 := Lib.hid ((hb4.block _ (Array.getElem?_eq_some_iff.1 HN3.out).1).trans HN3.out)
    clear o0 o4 o5 o6 o7 z2
    have q1 := HR4.out.old G1.out (by omega)
    have o0 := block_cell q1 0
    have o4 := block_cell q1 4
    have z2 := block_cell HN4.out 2
    have y0 := block_cell HR4.out.q 0
    have y1 := block_cell HR4.out.q 1
    clear q1
    have HUS4 := Lib.hid (HUS3.out.below hb4)
    obtain ⟨u1, u2⟩ := rUns_eq HRN.out prop.name
    have HU1 := Lib.hid u1
    have HU2 := Lib.hid u2
    have hx := runset_any n.props prop.name (.slice Au n.props.length cu) w4 HUS4.out (Nat.le_trans (rec_ok HRN.out).1 (by decide))
    obtain ⟨Ar1, cr1, hvq, _, _⟩ := hvr.1.form
    subst hvq
    clear u1 u2 hvr hb4
    generalize setE n.props prop = se1 at *
    go_wp2_with fail
    refine hx.mono ?_
    clear hx o0 o4 z2 y0 y1
    rintro e w4 ⟨vr, rfl, hvr, hb5⟩
    have HR4 := Lib.hid (HR4.out.below hb5)
    have HN4 := Lib.hid ((hb5.block _ (Array.getElem?_eq_some_iff.1 HN4.out).1).trans HN4.out)
    have q1 := HR4.out.old G1.out (by omega)
    have o0 := block_cell q1 0
    have o4 := block_cell q1 4
    have z2 := block_cell HN4.out 2
    have y0 := block_cell HR4.out.q 0
    have y1 := block_cell HR4.out.q 1
    clear q1
    obtain ⟨Ar2, cr2, hvq, _, _⟩ := hvr.1.form
    subst hvq
    cases hh : rhas n.props prop.name with
    | false =>
      obtain ⟨e1, e2, e3⟩ := HU2.out hh
      have HE := Lib.hid (show de = 5 ∧ dg = ⟨[], []⟩ from by have h := HE2.out.1 (by rw [e1]; decide); rw [e1] at h; exact h)
      rw [decide_eq_false e3]
      have m2 := HR4.out.old G2.out (by omega)
      have m3 := HR4.out.q
      have hB2 := HR4.out.b
      clear e1 e2 e3 hh HU1 HU2 HE2 hvr hb5 y0 y1
      generalize rUnsL n.props prop.name = rr at *
      have a0 := block_free m2 0
      have a1 := block_free m2 1
      have a2 := block_cell m2 0
      have a3 := block_cell m2 1
      have y0 := block_cell m3 0
      have y1 := block_cell m3 1
      have s2 := setCell_block (setCell_block m2 0 (.slice none 0 0)) 1 (.slice none 0 0)
      have hbX := (hB2.setCell (p := ⟨w.heap.size + 1 + 1, 0, none⟩) (by show w.heap.size ≤ w.heap.size + 1 + 1; omega) (.slice none 0 0)).setCell (p := ⟨w.heap.size + 1 + 1, 1, none⟩) (by show w.heap.size ≤ w.heap.size + 1 + 1; omega) (.slice none 0 0)
      have HS2 := Lib.hid s2
      clear s2 m2 m3
      go_wp2_with fail
      have k2' := block_cell HS2.out 0
      have k3' := block_cell HS2.out 1
      exact bodyPost_ret (v := .tuple #[.agg #[.slice none 0 0, .slice none 0 0], .int .i64 (5)]) (by simp [results, Tryz.results8, go_sem, k2', k3']) rfl
        ⟨_, _, by rw [HE.out.1], by rw [HE.out.2]; exact ⟨SlS.nil _ _, SlS.nil _ _⟩, hbX⟩
    | true =>
      obtain ⟨e1, e2, e3⟩ := HU1.out hh
      have HE := Lib.hid (HE2.out.2 e2)
      rw [decide_eq_true e3]
      rw [e1] at hvr
      rw [e1]
      clear e1 e2 e3 hh HU1 HU2 HE2 hb5
      generalize unsetR n.props prop.name = rr at *
      have HVR := Lib.hid hvr
      clear hvr
      -- the record is another one: Ar2 rr.length cr2: its value's place and length and room; rr: the record; the world is w4; HVR: it is the call's own
      have zf := block_free HN4.out 2
      go_upto_region 46 with fail
      have HR5 := Lib.hid (HR4.out.cellAt (p := ⟨nb, 2, none⟩) HNB.out.1 HNB.out.2 hw0 (.slice Ar2 rr.length cr2))
      have HN5 := Lib.hid (setCell_block HN4.out 2 (.slice Ar2 rr.length cr2))
      have hvr5 := (HVR.out.1).same (Same.setCell (p := ⟨nb, 2, none⟩) HN4.out (T := 33) (by decide) (.slice Ar2 rr.length cr2))
      have HB5 : Hid (w4.heap.size ≤ (w4.setCell ⟨nb, 2, none⟩ (.slice Ar2 rr.length cr2)).heap.size) := by unfold Hid; simp [World.setCell]
      clear z2 zf y0 y1 o0 o4
      generalize w4.setCell ⟨nb, 2, none⟩ (.slice Ar2 rr.length cr2) = w5 at *
      have HVO := HVR.out.2
      have HV5 := Lib.hid hvr5
      clear hvr5 HR4 HN4 HVR
      have q0 := HR5.out.old G0.out (by omega)
      have x0 := block_cell q0 0
      have y0 := block_cell HR5.out.q 0
      have HR := HR5
      have HOA : Hid (Own w5 B 29 3 (.slice none 0 0) 0 []) := Own.nil _ _ _ _
      have HBZ : Hid (B ≤ w5.heap.size) := by unfold Hid; rw [hBe]; exact HR.out.k.s
      have hxl : xs.length = g.nodes.length * 3 := HXR.out.len
      have HNW : Hid (0 < g.nodes.length → ∃ a, some (⟨gb, oo, none⟩ : Addr) = some a ∧ ∀ j u, xs[j]? = some u → w5.cell? (a.add j) = some u) := fun h => by
        obtain ⟨b, o, hA, hc⟩ := HXC.out h
        exact ⟨⟨b, o, none⟩, hA, fun j u hj => by rw [addr_add]; exact cell_below HR.out.b (hc j u hj)⟩
      have HONE : Hid (∀ u ∈ xs, u.oneCell' = true) := HXR.out.oneCell one_nod
      have HXL := Lib.hid hxl
      clear q0 hxl
      go_upto_region 47 with (first
        | (at_builtin; refine wpList_append_q _ rfl (.tmp 199) (.tmp 201) _ rfl B 29 n0 (.agg #[.int .i64 0, .string .empty, .slice none 0 0]) 3 48 Tryz.underlying22 ni nz nz1 nz2 rfl (by decide) (.slice none 0 0) 0 [] rfl HOA.out (some ⟨gb, oo, none⟩) g.nodes.length c1 xs rfl HXL.out HNW.out HONE.out (by unfold maxLen; omega) (by omega) HBZ.out ?_; intro v7 w7 hown7 hg7 hat7
           have hr7 := HR.out.grown (by rw [← hBe]; exact HOA.out) hw0 (by decide) hg7
           have f0 := block_free hr7.q 0
           have r0 := block_cell hr7.q 0
           obtain ⟨A7, c7, hv7, _, _⟩ := hown7.form
           subst hv7))
      have n7 := grown_block hg7 HN5.out (by simp [Value.ownBlock])
      have hv7 := HV5.out.same (Same.grown HOA.out (by decide) hg7)
      have HB7 : Hid (w5.heap.size ≤ w7.heap.size) := hg7.size
      have n8 : (w7.setCell ⟨w.heap.size + 1 + 1 + 1, 0, none⟩ (.slice A7 g.nodes.length c7)).heap[nb]? = _ := (Below.heap_setCell w7 ⟨w.heap.size + 1 + 1 + 1, 0, none⟩ (.slice A7 g.nodes.length c7) nb HNB.out.2).trans n7
      have hv8 := hv7.same (hr7.same 0 (.slice A7 g.nodes.length c7) (T := 33) (by decide))
      clear n7 hv7
      -- behind an append that is stored at the nodes: g.nodes.length: how many there are as go writes it
      have HR2 := Lib.hid (hr7.setN (.slice A7 (g.nodes.length) c7))
      have hoa2 := hown7.same (hr7.same 0 (.slice A7 (g.nodes.length) c7) (T := 29) (by decide))
      clear f0 r0 hr7 hown7 hg7 hat7 HR HOA HNW
      generalize w7.setCell ⟨w.heap.size + 1 + 1 + 1, 0, none⟩ (.slice A7 (g.nodes.length) c7) = w8 at *
      have HB8 : Hid (B ≤ w8.heap.size) := by unfold Hid; rw [hBe]; exact HR2.out.k.s
      rw [Nat.zero_add, List.nil_append] at hoa2
      obtain ⟨ga, oa, ca, hva, hga1, hga2⟩ := hoa2.addr (by omega)
      cases hva
      have hne := hoa2.ne_block HR2.out.q (by decide)
      have HNEB : Hid (ga ≠ w.heap.size + 1 + 1 + 1) := fun e => hne (by rw [e]; rfl)
      have y0 := block_cell HR2.out.q 0
      have z0 := block_cell n8 0
      have z1 := block_cell n8 1
      have z2 := block_cell n8 2
      obtain ⟨cs, ⟨v9, rfl, _⟩, hcs⟩ := HXR.out.get HNN.out
      have c0 : w8.cell? ⟨ga, oa + k * 3, none⟩ = some (.int .i64 n.id) := hoa2.cell rfl (hcs 0 _ rfl)
      have c1' : w8.cell? ⟨ga, oa + k * 3 + 1, none⟩ = some (.string n.kind) := hoa2.cell rfl (hcs 1 _ rfl)
      have c2' : w8.cell? ⟨ga, oa + k * 3 + 2, none⟩ = some v9 := hoa2.cell rfl (hcs 2 _ rfl)
      have f0 := hoa2.frozen rfl (oa + k * 3)
      have f1 := hoa2.frozen rfl (oa + k * 3 + 1)
      have f2 := hoa2.frozen rfl (oa + k * 3 + 2)
      have hkx : k * 3 + 2 < g.nodes.length * 3 := by omega
      clear hcs hne
      -- the node is stored; the ties too; Ar2 rr.length cr2: the record's value; rr: the record
      go_upto_region 48 with fail
      have s1 := hoa2.store (k * 3) (by omega) (.int .i64 n.id)
      have s2 := s1.store (k * 3 + 1) (by omega) (.string n.kind)
      have s3 : Own (((w8.setCell ⟨ga, oa + k * 3, none⟩ (.int .i64 n.id)).setCell ⟨ga, oa + k * 3 + 1, none⟩ (.string n.kind)).setCell ⟨ga, oa + k * 3 + 2, none⟩ (.slice Ar2 rr.length cr2)) B 29 3 (.slice (some ⟨ga, oa, none⟩) g.nodes.length c7) g.nodes.length (((xs.set (k * 3) (.int .i64 n.id)).set (k * 3 + 1) (.string n.kind)).set (k * 3 + 2) (.slice Ar2 rr.length cr2)) := s2.store (k * 3 + 2) (by omega) (.slice Ar2 rr.length cr2)
      have r3 : RdS w W0 (w.heap.size + 1 + 1 + 1) (((w8.setCell ⟨ga, oa + k * 3, none⟩ (.int .i64 n.id)).setCell ⟨ga, oa + k * 3 + 1, none⟩ (.string n.kind)).setCell ⟨ga, oa + k * 3 + 2, none⟩ (.slice Ar2 rr.length cr2)) (.slice (some ⟨ga, oa, none⟩) g.nodes.length c7) (.slice none 0 0) := ((HR2.out.cellAt (p := ⟨ga, oa + k * 3, none⟩) (by rw [← hBe]; exact hga1) HNEB.out hw0 (.int .i64 n.id)).cellAt (p := ⟨ga, oa + k * 3 + 1, none⟩) (by rw [← hBe]; exact hga1) HNEB.out hw0 (.string n.kind)).cellAt (p := ⟨ga, oa + k * 3 + 2, none⟩) (by rw [← hBe]; exact hga1) HNEB.out hw0 (.slice Ar2 rr.length cr2)
      have v3 : Own (((w8.setCell ⟨ga, oa + k * 3, none⟩ (.int .i64 n.id)).setCell ⟨ga, oa + k * 3 + 1, none⟩ (.string n.kind)).setCell ⟨ga, oa + k * 3 + 2, none⟩ (.slice Ar2 rr.length cr2)) _ 33 4 (.slice Ar2 rr.length cr2) (rr).length ((rr).flatMap Prp.enc) := ((hv8.same (Same.cellOf (T := 33) hoa2 (by decide) (oa + k * 3) (.int .i64 n.id))).same (Same.cellOf (T := 33) s1 (by decide) (oa + k * 3 + 1) (.string n.kind))).same (Same.cellOf (T := 33) s2 (by decide) (oa + k * 3 + 2) (.slice Ar2 rr.length cr2))
      have HR3 := Lib.hid r3
      have HOA := Lib.hid s3
      have HVW := Lib.hid v3
      clear s1 s2 s3 r3 v3 hoa2 hv8 n8 z0 z1 z2 c0 c1' c2' f0 f1 f2 y0 HR2 hga1 hga2 HNEB HB8
      have HR2 := HR3
      clear HR3
      generalize ((w8.setCell ⟨ga, oa + k * 3, none⟩ (.int .i64 n.id)).setCell ⟨ga, oa + k * 3 + 1, none⟩ (.string n.kind)).setCell ⟨ga, oa + k * 3 + 2, none⟩ (.slice Ar2 rr.length cr2) = w8 at *
      have q0 := HR2.out.old G0.out (by omega)
      have x1 := block_cell q0 1
      have y1 := block_cell HR2.out.q 1
      have f1 := block_free HR2.out.q 1
      clear q0
      go_upto_region 49 with fail
      have HR := HR2
      clear HR2
      have HR2 := Lib.hid (HR.out.setT (.slice A2 g.ties.length c2))
      have hoa3 := Lib.hid (HOA.out.same (HR.out.same 1 (.slice A2 g.ties.length c2) (T := 29) (by decide)))
      have hvw3 := Lib.hid (HVW.out.same (HR.out.same 1 (.slice A2 g.ties.length c2) (T := 33) (by decide)))
      clear HOA HVW HR x1 y1 f1
      generalize w8.setCell ⟨w.heap.size + 1 + 1 + 1, 1, none⟩ (.slice A2 g.ties.length c2) = w8 at *
      -- the box that was built is the result: .slice (some ⟨ga, oa, none⟩) g.nodes.length c7, .slice A2 g.ties.length c2: its values; 0: the fault; ⟨Own.slS (L := nodL) (by rw [List.length_set]; exact hoa3.out.same (HSM.out (by decide))) (by decide) (fun W' hW => Row.put3 (d' := ⟨n.id, n.kind, rr⟩) (a := .int .i64 n.id) (b := .string n.kind) (c := .slice Ar2 rr.length cr2) ⟨.slice Ar2 rr.length cr2, rfl, HIS.out.1, HIS.out.2, ((hvw3.out.same (HSM.out (by decide))).same (hW.2 _ (by decide))).prps HVO⟩ (HXS.out W' (HST.out W' hW)) HNN.out), HGS.out.2.stay HST.out⟩: its nodes and ties read so
      have m2 := HR2.out.old G2.out (by omega)
      have a0 := block_free m2 0
      have a1 := block_free m2 1
      have a2 := block_cell m2 0
      have a3 := block_cell m2 1
      have y0 := block_cell HR2.out.q 0
      have y1 := block_cell HR2.out.q 1
      have s2 := setCell_block (setCell_block m2 0 (.slice (some ⟨ga, oa, none⟩) g.nodes.length c7)) 1 (.slice A2 g.ties.length c2)
      have hbX := (HR2.out.b.setCell (p := ⟨w.heap.size + 1 + 1, 0, none⟩) (by show w.heap.size ≤ w.heap.size + 1 + 1; omega) (.slice (some ⟨ga, oa, none⟩) g.nodes.length c7)).setCell (p := ⟨w.heap.size + 1 + 1, 1, none⟩) (by show w.heap.size ≤ w.heap.size + 1 + 1; omega) (.slice A2 g.ties.length c2)
      have HS2 := Lib.hid s2
      have HSM : Hid (∀ {T : TypeId}, 25 ≠ T → Same T w8 ((w8.setCell ⟨w.heap.size + 1 + 1, 0, none⟩ (.slice (some ⟨ga, oa, none⟩) g.nodes.length c7)).setCell ⟨w.heap.size + 1 + 1, 1, none⟩ (.slice A2 g.ties.length c2))) := fun hT => (Same.setCell (p := ⟨w.heap.size + 1 + 1, 0, none⟩) m2 hT (.slice (some ⟨ga, oa, none⟩) g.nodes.length c7)).trans (Same.setCell (p := ⟨w.heap.size + 1 + 1, 1, none⟩) (setCell_block m2 0 (.slice (some ⟨ga, oa, none⟩) g.nodes.length c7)) hT (.slice A2 g.ties.length c2))
      have HBX := Lib.hid hbX
      have HST : Hid (∀ W', Stay w0 ((w8.setCell ⟨w.heap.size + 1 + 1, 0, none⟩ (.slice (some ⟨ga, oa, none⟩) g.nodes.length c7)).setCell ⟨w.heap.size + 1 + 1, 1, none⟩ (.slice A2 g.ties.length c2)) W' → Stay w0 w W') := fun W' hW => hW.from HBX.out
      clear s2 m2 hbX
      go_wp2_with fail
      have k2' := block_cell HS2.out 0
      have k3' := block_cell HS2.out 1
      refine bodyPost_ret (v := .tuple #[.agg #[.slice (some ⟨ga, oa, none⟩) g.nodes.length c7, .slice A2 g.ties.length c2], .int .i64 (0)]) (by simp [results, Tryz.results8, go_sem, k2', k3']) rfl
        ⟨_, _, by rw [HE.out.1], by rw [HE.out.2]; exact ⟨Own.slS (L := nodL) (by rw [List.length_set]; exact hoa3.out.same (HSM.out (by decide))) (by decide) (fun W' hW => Row.put3 (d' := ⟨n.id, n.kind, rr⟩) (a := .int .i64 n.id) (b := .string n.kind) (c := .slice Ar2 rr.length cr2) ⟨.slice Ar2 rr.length cr2, rfl, HIS.out.1, HIS.out.2, ((hvw3.out.same (HSM.out (by decide))).same (hW.2 _ (by decide))).prps HVO⟩ (HXS.out W' (HST.out W' hW)) HNN.out), HGS.out.2.stay HST.out⟩, HBX.out⟩
end Go.Proofs.YtngbbefpphinjaaGreatDoor

/- Plain: what each op does to a right graph, as a set of nodes and ties. No condition. -/
namespace Go.Proofs.YtngbbefpphinjaaGreatDoor
open Go

def looseOpr (t : Tie) : Opr := ⟨6, ⟨0, .empty, []⟩, ⟨.empty, ⟨0, 0, .empty⟩⟩, t⟩
def bindOpr (t : Tie) : Opr := ⟨5, ⟨0, .empty, []⟩, ⟨.empty, ⟨0, 0, .empty⟩⟩, t⟩
def goneOpr (id : Int) : Opr := ⟨2, ⟨id, .empty, []⟩, ⟨.empty, ⟨0, 0, .empty⟩⟩, ⟨.empty, 0, 0⟩⟩
def newOpr (n : Nod) : Opr := ⟨1, n, ⟨.empty, ⟨0, 0, .empty⟩⟩, ⟨.empty, 0, 0⟩⟩
def setOpr (id : Int) (p : Prp) : Opr := ⟨3, ⟨id, .empty, []⟩, p, ⟨.empty, 0, 0⟩⟩
def unsetOpr (id : Int) (nm : ByteArray) : Opr := ⟨4, ⟨id, .empty, []⟩, ⟨nm, ⟨0, 0, .empty⟩⟩, ⟨.empty, 0, 0⟩⟩
/-! ### Records, as sets -/
end Go.Proofs.YtngbbefpphinjaaGreatDoor

/- Plain: what is between two right graphs, op by op, makes of the one the other. No condition. -/
namespace Go.Proofs.YtngbbefpphinjaaGreatDoor
open Go

/-- A node of just that id and kind. -/
def keptN (g : Grf) (n : Nod) : Option Nod := match g.nodes[fpos g.nodes n.id]? with
  | some m => if fhas g.nodes n.id = true ∧ m.kind = n.kind then some m else none
  | none => none
def propsL (a b : Nod) : List Opr := (a.props.filter fun p => !rhas b.props p.name).map (fun p => unsetOpr a.id p.name) ++ (b.props.filter fun p => decide (p ∉ a.props)).map (setOpr a.id)
def lostIds (a b : Grf) : List Int := (a.nodes.filter fun n => (keptN b n).isNone).map (·.id)
def diffL (a b : Grf) : List Opr :=
  (a.ties.filter fun t => decide (t ∉ b.ties)).map looseOpr ++ ((lostIds a b).map goneOpr ++ ((b.nodes.filter fun n => (keptN a n).isNone).map newOpr ++
    (a.nodes.flatMap (fun n => match keptN b n with | some o => propsL n o | none => []) ++ (b.ties.filter fun t => decide (t ∉ a.ties ∨ t.src ∈ lostIds a b ∨ t.dst ∈ lostIds a b)).map bindOpr)))
theorem kept_iff {g : Grf} (h : grfE g = 0) {n m : Nod} : keptN g n = some m ↔ m ∈ g.nodes ∧ m.id = n.id ∧ m.kind = n.kind := by
  unfold keptN
  constructor
  · intro hk
    cases hq : g.nodes[fpos g.nodes n.id]? with
    | none => rw [hq] at hk; cases hk
    | some x =>
      rw [hq] at hk
      simp only at hk
      split at hk
      · rename_i hc
        injection hk with hk
        subst hk
        obtain ⟨y, hy, e⟩ := (fhas_mem h n.id).1 hc.1
        have := (fpos_of h hy).2
        rw [e, hq] at this
        injection this with this
        subst this
        exact ⟨hy, e, hc.2⟩
      · cases hk
  · rintro ⟨h1, h2, h3⟩
    obtain ⟨p1, p2⟩ := fpos_of h h1
    rw [h2] at p1 p2
    rw [p2]
    simp only
    rw [if_pos ⟨p1, h3⟩]
/-! ### The records -/
theorem nod_rec0 {g : Grf} (h : grfE g = 0) {n : Nod} (hn : n ∈ g.nodes) : recE n.props = 0 := by
  have h5 := ((grf_ok h).2.2.2 n hn).2
  unfold nodE at h5
  split at h5
  · cases h5
  · split at h5
    · exact h5
    · rename_i h6; exact absurd h5 h6
theorem ties_nodup {g : Grf} (h : grfE g = 0) : g.ties.Nodup :=
  (ties_pw h).imp fun {a b} hab e => by subst e; exact tieLt_ir a hab
end Go.Proofs.YtngbbefpphinjaaGreatDoor

/- Contract of the reference: kinref1.Do at an op that takes a tie away, and at one that makes one. -/
namespace Go.Proofs.YtngbbefpphinjaaGreatDoor
open Go Go.RowKit




theorem tie_eqlR (x y : Tie) (w : World) : (binOp .eql 35 (.agg #[.string x.bond, .int .i64 x.src, .int .i64 x.dst]) (.agg #[.string y.bond, .int .i64 y.src, .int .i64 y.dst])).run Tryz.prog w = .ok (.bool (decide (x = y))) w := by
  rw [run_eql_struct, show (10000 : Nat) = 9998 + 2 from rfl, tie_same]; rfl
theorem rdloose_parts (g : Grf) (node : Nod) (prop : Prp) (tie : Tie) (h : grfE g = 0) : (thas g.ties tie = false → doE g ⟨6, node, prop, tie⟩ = 5 ∧ doG g ⟨6, node, prop, tie⟩ = ⟨[], []⟩) ∧
    (thas g.ties tie = true → doE g ⟨6, node, prop, tie⟩ = 0 ∧ doG g ⟨6, node, prop, tie⟩ = ⟨g.nodes, g.ties.take (tpos g.ties tie) ++ g.ties.drop (tpos g.ties tie + 1)⟩) := by
  obtain ⟨d1, d2, d3⟩ := doE_right h ⟨6, node, prop, tie⟩
  have e : opE g ⟨6, node, prop, tie⟩ = (if thas g.ties tie then 0 else 5) := by unfold opE; simp
  have eG : opG g ⟨6, node, prop, tie⟩ = ⟨g.nodes, g.ties.take (tpos g.ties tie) ++ g.ties.drop (tpos g.ties tie + 1)⟩ := by unfold opG; simp
  refine ⟨fun hf => ?_, fun hf => ?_⟩
  · have h1 : opE g ⟨6, node, prop, tie⟩ = 5 := by rw [e, if_neg (by rw [hf]; simp)]
    exact ⟨by rw [d1, h1], d2 (by rw [h1]; omega)⟩
  · have h1 : opE g ⟨6, node, prop, tie⟩ = 0 := by rw [e, if_pos hf]
    exact ⟨by rw [d1, h1], by rw [d3 h1, eG]⟩
theorem rdbind_parts (g : Grf) (node : Nod) (prop : Prp) (tie : Tie) (h : grfE g = 0) : (tieE tie ≠ 0 → doE g ⟨5, node, prop, tie⟩ = tieE tie ∧ doG g ⟨5, node, prop, tie⟩ = ⟨[], []⟩) ∧ (tieE tie = 0 → thas g.ties tie = true → doE g ⟨5, node, prop, tie⟩ = 7 ∧ doG g ⟨5, node, prop, tie⟩ = ⟨[], []⟩) ∧
    (tieE tie = 0 → thas g.ties tie = false → 120 ≤ g.ties.length → doE g ⟨5, node, prop, tie⟩ = 4 ∧ doG g ⟨5, node, prop, tie⟩ = ⟨[], []⟩) ∧
    (tieE tie = 0 → thas g.ties tie = false → ¬ 120 ≤ g.ties.length → doE g ⟨5, node, prop, tie⟩ = 0 ∧ doG g ⟨5, node, prop, tie⟩ = ⟨g.nodes, g.ties.take (tpos g.ties tie) ++ tie :: g.ties.drop (tpos g.ties tie)⟩) := by
  obtain ⟨d1, d2, d3⟩ := doE_right h ⟨5, node, prop, tie⟩
  have e : opE g ⟨5, node, prop, tie⟩ = (if tieE tie = 0 then (if thas g.ties tie then 7 else if 120 ≤ g.ties.length then 4 else 0) else tieE tie) := by unfold opE; simp
  have eG : opG g ⟨5, node, prop, tie⟩ = ⟨g.nodes, g.ties.take (tpos g.ties tie) ++ tie :: g.ties.drop (tpos g.ties tie)⟩ := by unfold opG; simp
  refine ⟨fun hn => ?_, fun hn hf => ?_, fun hn hf hl => ?_, fun hn hf hl => ?_⟩
  · have h1 : opE g ⟨5, node, prop, tie⟩ = tieE tie := by rw [e, if_neg hn]
    exact ⟨by rw [d1, h1], d2 (by rw [h1]; exact hn)⟩
  · have h1 : opE g ⟨5, node, prop, tie⟩ = 7 := by rw [e, if_pos hn, if_pos hf]
    exact ⟨by rw [d1, h1], d2 (by rw [h1]; omega)⟩
  · have h1 : opE g ⟨5, node, prop, tie⟩ = 4 := by rw [e, if_pos hn, if_neg (by rw [hf]; simp), if_pos hl]
    exact ⟨by rw [d1, h1], d2 (by rw [h1]; omega)⟩
  · have h1 : opE g ⟨5, node, prop, tie⟩ = 0 := by rw [e, if_pos hn, if_neg (by rw [hf]; simp), if_neg hl]
    exact ⟨by rw [d1, h1], by rw [d3 h1, eG]⟩
set_option maxRecDepth 100000 in
set_option maxHeartbeats 32000000 in
theorem rdo_loose (g : Grf) (node : Nod) (prop : Prp) (tie : Tie) (vn vt : Value) (Ar : Option Addr) (cr : Nat) (w0 w : World) (hbw0 : Below w0.heap.size w0 w) (hgs : GrfS w0 w vn vt g) (ho : OprR w0 (.slice Ar node.props.length cr) ⟨6, node, prop, tie⟩) (h0 : grfE g = 0) :
    Calls Tryz.prog 8 #[.agg #[vn, vt], .agg #[.int .i64 6, .int .i64 node.id, .string node.kind, .slice Ar node.props.length cr, .string prop.name, .int .i64 prop.v.ty, .int .i64 prop.v.n, .string prop.v.s, .string tie.bond, .int .i64 tie.src, .int .i64 tie.dst]] w (RetGI w0 (doG g ⟨6, node, prop, tie⟩) (doE g ⟨6, node, prop, tie⟩) w) := by
  have hg := hgs.r hbw0
  have HGS := Lib.hid hgs
  have HBW := Lib.hid hbw0
  have hobase := ho
  have ho := hobase.below hbw0
  have HOB := Lib.hid hobase
  clear hobase hgs hbw0
  obtain ⟨A1, c1, rfl, _, _⟩ := hg.1.form
  obtain ⟨A2, c2, rfl, _, _⟩ := hg.2.form
  obtain ⟨W0, hW0⟩ : ∃ W0, W0 = (((w.alloc (.cells #[.slice A1 g.nodes.length c1, .slice A2 g.ties.length c2] 25)).alloc (.cells #[.int .i64 6, .int .i64 node.id, .string node.kind, .slice Ar node.props.length cr, .string prop.name, .int .i64 prop.v.ty, .int .i64 prop.v.n, .string prop.v.s, .string tie.bond, .int .i64 tie.src, .int .i64 tie.dst] 37)).alloc (.cells #[.slice none 0 0, .slice none 0 0] 25)).alloc (.cells #[.slice none 0 0, .slice none 0 0] 25) := ⟨_, rfl⟩
  have hb0 : Below w.heap.size w W0 := by rw [hW0]; exact ((((Below.refl _ _).alloc (Nat.le_refl _) _).alloc (by simp only [World.size_alloc]; omega) _).alloc (by simp only [World.size_alloc]; omega) _).alloc (by simp only [World.size_alloc]; omega) _
  have g0 : W0.heap[w.heap.size]? = some (.cells #[.slice A1 g.nodes.length c1, .slice A2 g.ties.length c2] 25 (0, 0)) := by
    rw [hW0, Below.heap_alloc _ _ _ (by simp only [World.size_alloc]; omega), Below.heap_alloc _ _ _ (by simp only [World.size_alloc]; omega), Below.heap_alloc _ _ _ (by simp only [World.size_alloc]; omega)]; exact heap_alloc_new _ _
  have g1 : W0.heap[w.heap.size + 1]? = some (.cells #[.int .i64 6, .int .i64 node.id, .string node.kind, .slice Ar node.props.length cr, .string prop.name, .int .i64 prop.v.ty, .int .i64 prop.v.n, .string prop.v.s, .string tie.bond, .int .i64 tie.src, .int .i64 tie.dst] 37 (0, 0)) := by
    have := heap_alloc_new (w.alloc (.cells #[.slice A1 g.nodes.length c1, .slice A2 g.ties.length c2] 25)) (.cells #[.int .i64 6, .int .i64 node.id, .string node.kind, .slice Ar node.props.length cr, .string prop.name, .int .i64 prop.v.ty, .int .i64 prop.v.n, .string prop.v.s, .string tie.bond, .int .i64 tie.src, .int .i64 tie.dst] 37); rw [hW0, Below.heap_alloc _ _ _ (by simp only [World.size_alloc]; omega), Below.heap_alloc _ _ _ (by simp only [World.size_alloc]; omega)]; simpa using this
  have g2 : W0.heap[w.heap.size + 1 + 1]? = some (.cells #[.slice none 0 0, .slice none 0 0] 25 (0, 0)) := by
    have := heap_alloc_new ((w.alloc (.cells #[.slice A1 g.nodes.length c1, .slice A2 g.ties.length c2] 25)).alloc (.cells #[.int .i64 6, .int .i64 node.id, .string node.kind, .slice Ar node.props.length cr, .string prop.name, .int .i64 prop.v.ty, .int .i64 prop.v.n, .string prop.v.s, .string tie.bond, .int .i64 tie.src, .int .i64 tie.dst] 37)) (.cells #[.slice none 0 0, .slice none 0 0] 25); rw [hW0, Below.heap_alloc _ _ _ (by simp only [World.size_alloc]; omega)]; simpa using this
  have g3 : W0.heap[w.heap.size + 1 + 1 + 1]? = some (.cells #[.slice none 0 0, .slice none 0 0] 25 (0, 0)) := by
    have := heap_alloc_new (((w.alloc (.cells #[.slice A1 g.nodes.length c1, .slice A2 g.ties.length c2] 25)).alloc (.cells #[.int .i64 6, .int .i64 node.id, .string node.kind, .slice Ar node.props.length cr, .string prop.name, .int .i64 prop.v.ty, .int .i64 prop.v.n, .string prop.v.s, .string tie.bond, .int .i64 tie.src, .int .i64 tie.dst] 37)).alloc (.cells #[.slice none 0 0, .slice none 0 0] 25)) (.cells #[.slice none 0 0, .slice none 0 0] 25); rw [hW0]; simpa using this
  have hW0' := hW0.symm
  have hw0 := hb0.size
  obtain ⟨b1, b2⟩ := rdloose_parts g node prop tie h0
  have P1 := Lib.hid b1
  have P2 := Lib.hid b2
  obtain ⟨k1, k2, k3, k4⟩ := grf_ok h0
  have hx := rgfind_any g _ _ node.id W0 (hg.below hb0)
  rw [idx_nod k3] at hx
  have x0 := block_cell g0 0
  have x1 := block_cell g0 1
  have o0 := block_cell g1 0
  have o1 := block_cell g1 1
  have o2 := block_cell g1 2
  have o3 := block_cell g1 3
  have G0 := Lib.hid g0
  have G1 := Lib.hid g1
  have G2 := Lib.hid g2
  have G3 := Lib.hid g3
  have HGW := Lib.hid hg
  have HOW := Lib.hid ho
  have HG := Lib.hid (hg.below hb0)
  have HO := Lib.hid (ho.below hb0)
  have HFHL : Hid (fhas g.nodes node.id = true → fpos g.nodes node.id < g.nodes.length) := fun h => by obtain ⟨n, hn⟩ := fhas_some' h; exact (List.getElem?_eq_some_iff.1 hn).1
  generalize hfz : (if fhas g.nodes node.id = true then (fpos g.nodes node.id : Int) else -1) = fz at *
  have HFZ := Lib.hid hfz
  clear hg ho g0 g1 g2 g3 hW0 hfz
  go_enter Tryz.func8, Tryz.ntmps8
  go_wp2_with fail
  clear hW0'
  refine hx.mono ?_
  clear hx
  rintro e w1 ⟨rfl, hb1⟩
  have hB1 := hb0.trans (hb1.mono hw0)
  have m0 := (hb1.block _ (Array.getElem?_eq_some_iff.1 G0.out).1).trans G0.out
  have m1 := (hb1.block _ (Array.getElem?_eq_some_iff.1 G1.out).1).trans G1.out
  have m2 := (hb1.block _ (Array.getElem?_eq_some_iff.1 G2.out).1).trans G2.out
  have m3 := (hb1.block _ (Array.getElem?_eq_some_iff.1 G3.out).1).trans G3.out
  have x0 := block_cell m0 0
  have x1 := block_cell m0 1
  have o0 := block_cell m1 0
  have o1 := block_cell m1 1
  clear m0
  generalize doE g ⟨6, node, prop, tie⟩ = de at *
  generalize doG g ⟨6, node, prop, tie⟩ = dg at *
  clear b1 b2 k3 k4
  obtain ⟨zt, hzt⟩ : ∃ zt : Int, zt = if thas g.ties tie = true then (tpos g.ties tie : Int) else -1 := ⟨_, rfl⟩
  have HZT : Hid (idxI (fun u => decide (u = tie)) g.ties = zt) := by unfold Hid; rw [hzt]; exact idx_tie (grf_work h0).2.1 tie
  have HZ := Lib.hid hzt
  have HND := Lib.hid (ties_nodup h0)
  have HCH := Lib.hid (grf_work h0).2.1
  have HK2 := Lib.hid k2
  have x0 := block_cell m1 8
  have o8 := block_cell m1 8
  have o9 := block_cell m1 9
  have o10 := block_cell m1 10
  have M1 := Lib.hid m1
  have M2 := Lib.hid m2
  have M3 := Lib.hid m3
  clear x0 hzt m1 m2 m3 k1 HFHL HFZ
  go_upto_block 5 with fail
  go_cut [16] (fun v wx => v = .int .i64 zt ∧ Below w1.heap.size w1 wx)
  case first =>
    go_wp2_with fail
    go_loopw [16, 17] (fun a i wr => ∃ (k : Nat) (z : Int), k ≤ g.ties.length ∧ i = .int .i64 k ∧ a = .int .i64 z ∧ Below w1.heap.size w1 wr ∧ Hid ((z = -1 ∧ ∀ j y, j < k → g.ties[j]? = some y → y ≠ tie) ∨ ∃ m : Nat, m < k ∧ z = m ∧ g.ties[m]? = some tie)) (fun _ i _ => g.ties.length - (intOf i).toNat)
    case atStart => exact ⟨0, -1, Nat.zero_le _, rfl, rfl, Below.refl _ _, .inl ⟨rfl, fun j y hj => absurd hj (Nat.not_lt_zero _)⟩⟩
    case round =>
      obtain ⟨k, z, hk, rfl, rfl, hbr, HA⟩ := hrel
      have x1 := cell_below hbr x1
      have o8 := cell_below hbr o8
      have o9 := cell_below hbr o9
      have o10 := cell_below hbr o10
      by_cases hkl : k < g.ties.length
      · obtain ⟨t, ht⟩ : ∃ d, g.ties[k]? = some d := ⟨_, List.getElem?_eq_getElem hkl⟩
        have hkl' : (k : Int) < (g.ties.length : Int) := by omega
        obtain ⟨gb, oo, hA, htok, u0, u1, u2⟩ := tie_at (HGW.out.2.below (hB1.trans (hbr.mono hB1.size))) ht
        subst hA
        have heq := tie_eqlR t tie
        have hgd := tie_guard
        have HYES : Hid (decide (t = tie) = true → g.ties[k]? = some tie) := fun h => by rw [ht, of_decide_eq_true h]
        have HNO : Hid (decide (t = tie) = false → ∀ y, g.ties[k]? = some y → y ≠ tie) := fun h y hy => by
          rw [ht] at hy; cases hy; exact of_decide_eq_false h
        generalize decide (t = tie) = q at *
        clear ht htok
        cases q with
        | true =>
          have HK := Lib.hid (HYES.out rfl)
          clear HYES HNO
          go_wp2_with fail
          go_quiet (fail)
          go_wp2_with fail
          go_roundw
          case rel => exact ⟨k + 1, k, by omega, by go_num, rfl, below_drewN hbr _, .inr ⟨k, Nat.lt_succ_self _, rfl, HK.out⟩⟩
          case measure => simp [intOf]; omega
        | false =>
          have HK := Lib.hid (HNO.out rfl)
          clear HYES HNO
          go_wp2_with fail
          go_quiet (fail)
          go_wp2_with fail
          go_roundw
          case rel =>
            refine ⟨k + 1, z, by omega, by go_num, rfl, below_drewN hbr _, ?_⟩
            rcases HA.out with ⟨h1, h2⟩ | ⟨m, h1, h2, h3⟩
            · refine .inl ⟨h1, fun j y hj hy => ?_⟩
              rcases Nat.lt_succ_iff_lt_or_eq.1 hj with h | rfl
              · exact h2 j y h hy
              · exact HK.out y hy
            · exact .inr ⟨m, by omega, h2, h3⟩
          case measure => simp [intOf]; omega
      · obtain rfl : k = g.ties.length := by omega
        have HZE : Hid (z = zt) := by
          unfold Hid
          rw [← HZT.out]
          rcases HA.out with ⟨h1, h2⟩ | ⟨m, h1, h2, h3⟩
          · rw [h1]; exact (idxI_miss fun j x hj hx => decide_eq_false (h2 j x hj hx)).symm
          · rw [h2]
            refine (idxI_hit (p := fun u => decide (u = tie)) (fun j x hj hx => decide_eq_false fun e => ?_) h3 (decide_eq_true rfl)).symm
            rw [e] at hx
            have h4 := (List.getElem?_inj (by omega) HND.out).1 (hx.trans h3.symm)
            omega
        have hkl' : ¬ (g.ties.length : Int) < (g.ties.length : Int) := by omega
        clear HA
        go_wp2_with fail
        go_meet
        exact ⟨by rw [HZE.out], hbr⟩
  case rest =>
  obtain ⟨rfl, hb12⟩ := hcut
  obtain ⟨w2, rfl⟩ : ∃ x : World, x = wc := ⟨_, rfl⟩
  have hbw2 := hB1.trans (hb12.mono hB1.size)
  have hr2 : RdS w W0 (w.heap.size + 1 + 1 + 1) w2 (.slice none 0 0) (.slice none 0 0) := ⟨(Kp.refl _ _).below (hb1.trans (hb12.mono hb1.size)), hbw2, (hb12.block _ (Array.getElem?_eq_some_iff.1 M3.out).1).trans M3.out, by omega⟩
  have HR2 := Lib.hid hr2
  clear hr2 hbw2 hb12 hB1 hb1 M1 M2 M3 HZT HND x1 o8 o9 o10 o0 o1
  have q0 := HR2.out.old G0.out (by omega)
  have q1 := HR2.out.old G1.out (by omega)
  have x0 := block_cell q0 0
  have x1 := block_cell q0 1
  have o0 := block_cell q1 0
  have y0 := block_cell HR2.out.q 0
  have f0 := block_free HR2.out.q 0
  clear q0 q1
  go_upto_region 59 with fail
  have HR3 := Lib.hid (HR2.out.setN (.slice A1 g.nodes.length c1))
  generalize w2.setCell ⟨w.heap.size + 1 + 1 + 1, 0, none⟩ (.slice A1 g.nodes.length c1) = w3 at *
  clear x0 x1 o0 y0 f0 HR2
  have q0 := HR3.out.old G0.out (by omega)
  have q1 := HR3.out.old G1.out (by omega)
  have x1 := block_cell q0 1
  have o0 := block_cell q1 0
  have y1 := block_cell HR3.out.q 1
  have f1 := block_free HR3.out.q 1
  clear q0 q1
  cases hf : thas g.ties tie with
  | false =>
    have HE := Lib.hid (P1.out hf)
    have hz : zt = -1 := by rw [HZ.out, hf]; rfl
    subst hz
    have m2 := HR3.out.old G2.out (by omega)
    have m3 := HR3.out.q
    have hB2 := HR3.out.b
    clear hf HZ P1 P2 f1 y1 x1
    have a0 := block_free m2 0
    have a1 := block_free m2 1
    have a2 := block_cell m2 0
    have a3 := block_cell m2 1
    have y0 := block_cell m3 0
    have y1 := block_cell m3 1
    have s2 := setCell_block (setCell_block m2 0 (.slice none 0 0)) 1 (.slice none 0 0)
    have hbX := (hB2.setCell (p := ⟨w.heap.size + 1 + 1, 0, none⟩) (by show w.heap.size ≤ w.heap.size + 1 + 1; omega) (.slice none 0 0)).setCell (p := ⟨w.heap.size + 1 + 1, 1, none⟩) (by show w.heap.size ≤ w.heap.size + 1 + 1; omega) (.slice none 0 0)
    have HS2 := Lib.hid s2
    clear s2 m2 m3
    go_wp2_with fail
    have k2' := block_cell HS2.out 0
    have k3' := block_cell HS2.out 1
    exact bodyPost_ret (v := .tuple #[.agg #[.slice none 0 0, .slice none 0 0], .int .i64 (5)]) (by simp [results, Tryz.results8, go_sem, k2', k3']) rfl
      ⟨_, _, by rw [HE.out.1], by rw [HE.out.2]; exact ⟨SlS.nil _ _, SlS.nil _ _⟩, hbX⟩
  | true =>
    have HE := Lib.hid (P2.out hf)
    have hz : zt = (tpos g.ties tie : Int) := by rw [HZ.out, hf]; rfl
    subst hz
    have hkl : tpos g.ties tie < g.ties.length := by
      obtain ⟨_, h⟩ := thas_some hf
      exact (List.getElem?_eq_some_iff.1 h).1
    -- the row's cells: 2: which part; tieL: its Lay
    obtain ⟨Arow, crow, xs, hvrow, _, _, hxall⟩ := HGS.out.2
    cases hvrow
    have hxs0 := hxall w (Stay.refl HBW.out)
    have HXR := Lib.hid hxs0.1
    have HXC := Lib.hid hxs0.2
    have HXS : Hid (∀ W', Stay w0 w W' → Row tieL W' _ xs) := fun W' hW => (hxall W' hW).1
    clear hxs0 hxall
    obtain ⟨n0, ni, nz, nz1, nz2⟩ := info_parts tieT_info
    obtain ⟨B, hBe⟩ : ∃ B, B = W0.heap.size := ⟨_, rfl⟩
    clear hf HZ P1 P2
    generalize tpos g.ties tie = k at *
    have hk0 : ¬ (k : Int) < 0 := by omega
    have hk1 : (0 : Int) ≤ (k : Int) := by omega
    have hkc : (k : Int) ≤ (c2 : Int) := by omega
    have hkc2 : (k : Int) ≤ (g.ties.length : Int) := by omega
    go_upto_region 62 with fail
    clear o0 f1
    have hsl := cut_headT A2 c2 g.ties.length k (by omega)
    have hxl : xs.length = g.ties.length * 3 := HXR.out.len
    have HN1 : Hid ((xs.take (k * 3)).length = k * 3) := by unfold Hid; rw [List.length_take, hxl]; omega
    have HN3 : Hid ((xs.drop ((k + 1) * 3)).length = (g.ties.length - (k + 1)) * 3) := by unfold Hid; rw [List.length_drop, hxl]; omega
    have HONE : Hid (∀ u ∈ xs, u.oneCell' = true) := HXR.out.oneCell one_tie
    go_wp2_with fail
    refine wp_quiet_tail 6 (by kernel_rfl) (by kernel_rfl) ?_
    simp only [List.take_succ_cons, List.take_zero, List.drop_succ_cons, List.drop_zero]
    repeat (go_big_quiet_step (fail))
    refine wpQuiet_nil ?_
    intro _ hw'
    obtain ⟨nq3, hw''⟩ := hw'
    subst hw''
    clear hsl
    have hbz := below_drewN (Below.refl w3.heap.size w3) nq3
    have HR := Lib.hid (HR3.out.below hbz)
    generalize w3.drewN nq3 = wz at *
    have HNW : Hid (0 < k → ∃ a, A2 = some a ∧ ∀ j u, (xs.take (k * 3))[j]? = some u → wz.cell? (a.add j) = some u) := fun h => by
      obtain ⟨a, h1, h2⟩ := head_cells HXC.out (by omega) h
      exact ⟨a, h1, fun j u hj => cell_below HR.out.b (h2 j u hj)⟩
    have HOA : Hid (Own wz B 35 3 (.slice none 0 0) 0 []) := Own.nil _ _ _ _
    have hBz : B ≤ wz.heap.size := by rw [hBe]; exact HR.out.k.s
    clear y1 x1 hbz
    go_upto_region 63 with (first
      | (at_builtin; refine wpList_append_q _ rfl (.tmp 242) (.tmp 246) _ rfl B 35 n0 (.agg #[.string .empty, .int .i64 0, .int .i64 0]) 3 32 Tryz.underlying23 ni nz nz1 nz2 rfl (by decide) (.slice none 0 0) 0 [] rfl HOA.out A2 k c2 (xs.take (k * 3)) rfl HN1.out HNW.out (fun u hu => HONE.out u (List.mem_of_mem_take hu)) (by unfold maxLen; omega) (by omega) hBz ?_; intro v7 w7 hown7 hg7 hat7
         have hr7 := HR.out.grown (by rw [← hBe]; exact HOA.out) hw0 (by decide) hg7
         have f0 := block_free hr7.q 1
         have r0 := block_cell hr7.q 1
         obtain ⟨A7, c7, hv7, _, _⟩ := hown7.form
         subst hv7))
    -- behind an append that is stored at the ties: k: how many there are as go writes it
    have HR2 := Lib.hid (hr7.setT (.slice A7 (k) c7))
    have hoa2 := hown7.same (hr7.same 1 (.slice A7 (k) c7) (T := 35) (by decide))
    clear f0 r0 hr7 hown7 hg7 hat7 HR HOA HNW
    generalize w7.setCell ⟨w.heap.size + 1 + 1 + 1, 1, none⟩ (.slice A7 (k) c7) = w8 at *
    have HB8 : Hid (B ≤ w8.heap.size) := by unfold Hid; rw [hBe]; exact HR2.out.k.s
    rw [Nat.zero_add, List.nil_append] at hoa2
    have q0 := HR2.out.old G0.out (by omega)
    have x1 := block_cell q0 1
    have y1 := block_cell HR2.out.q 1
    have hkn : (k : Int) + 1 ≤ (g.ties.length : Int) := by omega
    have hkn0 : (0 : Int) ≤ (k : Int) + 1 := by omega
    have hsl := cut_tailT A2 c2 g.ties.length (k + 1) (by omega)
    have HTC := Lib.hid (tail_cells HXC.out (by omega : g.ties.length ≤ c2) (by omega : k + 1 ≤ g.ties.length))
    obtain ⟨At, hAt⟩ : ∃ At, At = (if c2 = k + 1 then A2 else A2.map (fun a => a.add ((k + 1) * 3))) := ⟨_, rfl⟩
    rw [← hAt] at hsl HTC
    rw [Int.natCast_succ] at hsl
    clear hAt q0
    go_wp2_with fail
    refine wp_quiet_tail 7 (by kernel_rfl) (by kernel_rfl) ?_
    simp only [List.take_succ_cons, List.take_zero, List.drop_succ_cons, List.drop_zero]
    repeat (go_big_quiet_step (fail))
    refine wpQuiet_nil ?_
    intro _ hw'
    obtain ⟨nq3, hw''⟩ := hw'
    subst hw''
    clear hsl
    have hbz := below_drewN (Below.refl w8.heap.size w8) nq3
    have HR := Lib.hid (HR2.out.below hbz)
    have HOA := Lib.hid (hoa2.below hbz)
    have HBZ : Hid (B ≤ (w8.drewN nq3).heap.size) := Nat.le_trans HB8.out hbz.size
    clear hbz hoa2 HB8 HR2
    generalize w8.drewN nq3 = wz at *
    have HNW : Hid (0 < g.ties.length - (k + 1) → ∃ a, At = some a ∧ ∀ j u, (xs.drop ((k + 1) * 3))[j]? = some u → wz.cell? (a.add j) = some u) := fun h => by
      obtain ⟨a, h1, h2⟩ := HTC.out h
      exact ⟨a, h1, fun j u hj => cell_below HR.out.b (h2 j u hj)⟩
    go_upto_region 64 with (first
      | (at_builtin; refine wpList_append_q _ rfl (.tmp 250) (.tmp 255) _ rfl B 35 n0 (.agg #[.string .empty, .int .i64 0, .int .i64 0]) 3 32 Tryz.underlying23 ni nz nz1 nz2 rfl (by decide) (.slice A7 k c7) k (xs.take (k * 3)) rfl HOA.out At (g.ties.length - (k + 1)) (c2 - (k + 1)) (xs.drop ((k + 1) * 3)) rfl HN3.out HNW.out (fun u hu => HONE.out u (List.mem_of_mem_drop hu)) (by unfold maxLen; omega) (by omega) HBZ.out ?_; intro v7 w7 hown7 hg7 hat7
         have hr7 := HR.out.grown (by rw [← hBe]; exact HOA.out) hw0 (by decide) hg7
         have f0 := block_free hr7.q 1
         have r0 := block_cell hr7.q 1
         obtain ⟨A7, c7, hv7, _, _⟩ := hown7.form
         subst hv7))
    -- behind an append that is stored at the ties: k + (g.ties.length - (k + 1)): how many there are as go writes it
    have HR2 := Lib.hid (hr7.setT (.slice A7 (k + (g.ties.length - (k + 1))) c7))
    have hoa2 := hown7.same (hr7.same 1 (.slice A7 (k + (g.ties.length - (k + 1))) c7) (T := 35) (by decide))
    clear f0 r0 hr7 hown7 hg7 hat7 HR HOA HNW
    generalize w7.setCell ⟨w.heap.size + 1 + 1 + 1, 1, none⟩ (.slice A7 (k + (g.ties.length - (k + 1))) c7) = w8 at *
    have HB8 : Hid (B ≤ w8.heap.size) := by unfold Hid; rw [hBe]; exact HR2.out.k.s
    have HON := Lib.hid hoa2
    clear hoa2 HTC HN1 HN3 HONE
    -- the box that was built is the result: .slice A1 g.nodes.length c1, .slice A7 (k + (g.ties.length - (k + 1))) c7: its values; 0: the fault; ⟨HGS.out.1.stay HST.out, Own.slS (L := tieL) (by rw [show (g.ties.take k ++ g.ties.drop (k + 1)).length = k + (g.ties.length - (k + 1)) by rw [List.length_append, List.length_take, List.length_drop, Nat.min_eq_left (by omega)]]; exact HON.out.same (HSM.out (by decide))) (by decide) (fun W' hW => ((HXS.out W' (HST.out W' hW)).take k (by omega)).append ((HXS.out W' (HST.out W' hW)).drop (k + 1) (by omega)))⟩: its nodes and ties read so
    have m2 := HR2.out.old G2.out (by omega)
    have a0 := block_free m2 0
    have a1 := block_free m2 1
    have a2 := block_cell m2 0
    have a3 := block_cell m2 1
    have y0 := block_cell HR2.out.q 0
    have y1 := block_cell HR2.out.q 1
    have s2 := setCell_block (setCell_block m2 0 (.slice A1 g.nodes.length c1)) 1 (.slice A7 (k + (g.ties.length - (k + 1))) c7)
    have hbX := (HR2.out.b.setCell (p := ⟨w.heap.size + 1 + 1, 0, none⟩) (by show w.heap.size ≤ w.heap.size + 1 + 1; omega) (.slice A1 g.nodes.length c1)).setCell (p := ⟨w.heap.size + 1 + 1, 1, none⟩) (by show w.heap.size ≤ w.heap.size + 1 + 1; omega) (.slice A7 (k + (g.ties.length - (k + 1))) c7)
    have HS2 := Lib.hid s2
    have HSM : Hid (∀ {T : TypeId}, 25 ≠ T → Same T w8 ((w8.setCell ⟨w.heap.size + 1 + 1, 0, none⟩ (.slice A1 g.nodes.length c1)).setCell ⟨w.heap.size + 1 + 1, 1, none⟩ (.slice A7 (k + (g.ties.length - (k + 1))) c7))) := fun hT => (Same.setCell (p := ⟨w.heap.size + 1 + 1, 0, none⟩) m2 hT (.slice A1 g.nodes.length c1)).trans (Same.setCell (p := ⟨w.heap.size + 1 + 1, 1, none⟩) (setCell_block m2 0 (.slice A1 g.nodes.length c1)) hT (.slice A7 (k + (g.ties.length - (k + 1))) c7))
    have HBX := Lib.hid hbX
    have HST : Hid (∀ W', Stay w0 ((w8.setCell ⟨w.heap.size + 1 + 1, 0, none⟩ (.slice A1 g.nodes.length c1)).setCell ⟨w.heap.size + 1 + 1, 1, none⟩ (.slice A7 (k + (g.ties.length - (k + 1))) c7)) W' → Stay w0 w W') := fun W' hW => hW.from HBX.out
    clear s2 m2 hbX
    go_wp2_with fail
    have k2' := block_cell HS2.out 0
    have k3' := block_cell HS2.out 1
    refine bodyPost_ret (v := .tuple #[.agg #[.slice A1 g.nodes.length c1, .slice A7 (k + (g.ties.length - (k + 1))) c7], .int .i64 (0)]) (by simp [results, Tryz.results8, go_sem, k2', k3']) rfl
      ⟨_, _, by rw [HE.out.1], by rw [HE.out.2]; exact ⟨HGS.out.1.stay HST.out, Own.slS (L := tieL) (by rw [show (g.ties.take k ++ g.ties.drop (k + 1)).length = k + (g.ties.length - (k + 1)) by rw [List.length_append, List.length_take, List.length_drop, Nat.min_eq_left (by omega)]]; exact HON.out.same (HSM.out (by decide))) (by decide) (fun W' hW => ((HXS.out W' (HST.out W' hW)).take k (by omega)).append ((HXS.out W' (HST.out W' hW)).drop (k + 1) (by omega)))⟩, HBX.out⟩
end Go.Proofs.YtngbbefpphinjaaGreatDoor
