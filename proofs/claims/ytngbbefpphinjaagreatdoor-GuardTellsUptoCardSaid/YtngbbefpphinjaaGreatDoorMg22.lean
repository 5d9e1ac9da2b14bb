/- Parts: RdA, RdB. -/
import Derived.Test.YtngbbefpphinjaaGreatDoorMg21
/- Contract of the reference: kinref1.Do at an op that makes a node. -/
namespace Go.Proofs.YtngbbefpphinjaaGreatDoor
open Go Go.RowKit
set_option maxRecDepth 100000 in
set_option maxHeartbeats 32000000 in
theorem rdo_new (g : Grf) (node : Nod) (prop : Prp) (tie : Tie) (vn vt : Value) (Ar : Option Addr) (cr : Nat) (w0 w : World) (hbw0 : Below w0.heap.size w0 w) (hgs : GrfS w0 w vn vt g) (ho : OprR w0 (.slice Ar node.props.length cr) ⟨1, node, prop, tie⟩) (h0 : grfE g = 0) :
 Calls Tryz.prog 8 #[.agg #[vn, vt], .agg #[.int .i64 1, .int .i64 node.id, .string node.kind, .slice Ar node.props.length cr, .string prop.name, .int .i64 prop.v.ty, .int .i64 prop.v.n, .string prop.v.s, .string tie.bond, .int .i64 tie.src, .int .i64 tie.dst]] w (RetGI w0 (doG g ⟨1, node, prop, tie⟩) (doE g ⟨1, node, prop, tie⟩) w) := by
 have hg := hgs.r hbw0
 have HGS := Lib.hid hgs
 have HBW := Lib.hid hbw0
 have hobase := ho
 have ho := hobase.below hbw0
 have HOB := Lib.hid hobase
 clear hobase hgs hbw0
 obtain ⟨A1, c1, rfl, _, _⟩ := hg.1.form
 obtain ⟨A2, c2, rfl, _, _⟩ := hg.2.form
 obtain ⟨W0, hW0⟩ : ∃ W0, W0 = (((w.alloc (.cells #[.slice A1 g.nodes.length c1, .slice A2 g.ties.length c2] 25)).alloc (.cells #[.int .i64 1, .int .i64 node.id, .string node.kind, .slice Ar node.props.length cr, .string prop.name, .int .i64 prop.v.ty, .int .i64 prop.v.n, .string prop.v.s, .string tie.bond, .int .i64 tie.src, .int .i64 tie.dst] 37)).alloc (.cells #[.slice none 0 0, .slice none 0 0] 25)).alloc (.cells #[.slice none 0 0, .slice none 0 0] 25) := ⟨_, rfl⟩
 have hb0 : Below w.heap.size w W0 := by rw [hW0]; exact ((((Below.refl _ _).alloc (Nat.le_refl _) _).alloc (by simp only [World.size_alloc]; omega) _).alloc (by simp only [World.size_alloc]; omega) _).alloc (by simp only [World.size_alloc]; omega) _
 have g0 : W0.heap[w.heap.size]? = some (.cells #[.slice A1 g.nodes.length c1, .slice A2 g.ties.length c2] 25 (0, 0)) := by
  rw [hW0, Below.heap_alloc _ _ _ (by simp only [World.size_alloc]; omega), Below.heap_alloc _ _ _ (by simp only [World.size_alloc]; omega), Below.heap_alloc _ _ _ (by simp only [World.size_alloc]; omega)]; exact heap_alloc_new _ _
 have g1 : W0.heap[w.heap.size + 1]? = some (.cells #[.int .i64 1, .int .i64 node.id, .string node.kind, .slice Ar node.props.length cr, .string prop.name, .int .i64 prop.v.ty, .int .i64 prop.v.n, .string prop.v.s, .string tie.bond, .int .i64 tie.src, .int .i64 tie.dst] 37 (0, 0)) := by
  have := heap_alloc_new (w.alloc (.cells #[.slice A1 g.nodes.length c1, .slice A2 g.ties.length c2] 25)) (.cells #[.int .i64 1, .int .i64 node.id, .string node.kind, .slice Ar node.props.length cr, .string prop.name, .int .i64 prop.v.ty, .int .i64 prop.v.n, .string prop.v.s, .string tie.bond, .int .i64 tie.src, .int .i64 tie.dst] 37); rw [hW0, Below.heap_alloc _ _ _ (by simp only [World.size_alloc]; omega), Below.heap_alloc _ _ _ (by simp only [World.size_alloc]; omega)]; simpa using this
 have g2 : W0.heap[w.heap.size + 1 + 1]? = some (.cells #[.slice none 0 0, .slice none 0 0] 25 (0, 0)) := by
  have := heap_alloc_new ((w.alloc (.cells #[.slice A1 g.nodes.length c1, .slice A2 g.ties.length c2] 25)).alloc (.cells #[.int .i64 1, .int .i64 node.id, .string node.kind, .slice Ar node.props.length cr, .string prop.name, .int .i64 prop.v.ty, .int .i64 prop.v.n, .string prop.v.s, .string tie.bond, .int .i64 tie.src, .int .i64 tie.dst] 37)) (.cells #[.slice none 0 0, .slice none 0 0] 25); rw [hW0, Below.heap_alloc _ _ _ (by simp only [World.size_alloc]; omega)]; simpa using this
 have g3 : W0.heap[w.heap.size + 1 + 1 + 1]? = some (.cells #[.slice none 0 0, .slice none 0 0] 25 (0, 0)) := by
  have := heap_alloc_new (((w.alloc (.cells #[.slice A1 g.nodes.length c1, .slice A2 g.ties.length c2] 25)).alloc (.cells #[.int .i64 1, .int .i64 node.id, .string node.kind, .slice Ar node.props.length cr, .string prop.name, .int .i64 prop.v.ty, .int .i64 prop.v.n, .string prop.v.s, .string tie.bond, .int .i64 tie.src, .int .i64 tie.dst] 37)).alloc (.cells #[.slice none 0 0, .slice none 0 0] 25)) (.cells #[.slice none 0 0, .slice none 0 0] 25); rw [hW0]; simpa using this
 have hW0' := hW0.symm
 have hw0 := hb0.size
 obtain ⟨k1, k2, k3, k4⟩ := grf_ok h0
 have hx := rgfind_any g _ _ node.id W0 (hg.below hb0)
 rw [idx_nod k3] at hx
 have x0 := block_cell g0 0
 have x1 := block_cell g0 1
 have o0 := block_cell g1 0
 have o1 := block_cell g1 1
 have o2 := block_cell g1 2
 have o3 := block_cell g1 3
 have G0 := Lib.hid g0
 have G1 := Lib.hid g1
 have G2 := Lib.hid g2
 have G3 := Lib.hid g3
 have HGW := Lib.hid hg
 have HOW := Lib.hid ho
 have HG := Lib.hid (hg.below hb0)
 have HO := Lib.hid (ho.below hb0)
 generalize hfz : (if fhas g.nodes node.id = true then (fpos g.nodes node.id : Int) else -1) = fz at *
 have HFZ := Lib.hid hfz
 clear hg ho g0 g1 g2 g3 hW0 hfz
 go_enter Tryz.func8, Tryz.ntmps8
 go_wp2_with fail
 clear hW0'
 refine hx.mono ?_
 clear hx
 rintro e w1 ⟨rfl, hb1⟩
 have hB1 := hb0.trans (hb1.mono hw0)
 have m1 := (hb1.block _ (geB G1.out)).trans G1.out
 have o0 := block_cell m1 0
 have o1 := block_cell m1 1
 have o2 := block_cell m1 2
 have o3 := block_cell m1 3
 have hx := rnode_any node (.slice Ar node.props.length cr) w1 HO.out.k (HO.out.r.below hb1)
 obtain ⟨b1, b2, b3, b4⟩ := born_parts g node prop tie h0
 have P1 := Lib.hid b1
 have P2 := Lib.hid b2
 have P3 := Lib.hid b3
 have P4 := Lib.hid b4
 have HFP : Hid (fpos g.nodes node.id <= g.nodes.length) := lowI_le _ _
 have HLO : Hid (∀ (k : Nat) (n : Nod), k < fpos g.nodes node.id -> g.nodes[k]? = some n -> n.id < node.id) := fun k n hk hn => cmpI_neg.1 (low_lt (c := nodC node.id) hk hn)
 have HHI : Hid (∀ n : Nod, g.nodes[fpos g.nodes node.id]? = some n -> ¬ n.id < node.id) := fun n hn h => by
  have h1 := low_at (c := nodC node.id) hn
  have h2 := cmpI_neg.2 h
  unfold nodC at h1
  omega
 generalize doE g ⟨1, node, prop, tie⟩ = de at *
 generalize doG g ⟨1, node, prop, tie⟩ = dg at *
 clear b1 b2 b3 b4 h0 k3 k4
 go_wp2_with fail
 refine hx.mono ?_
 clear hx x0 x1 o0 o1 o2 o3
 rintro e w2 ⟨rfl, hb2⟩
 have hb12 := hb1.trans (hb2.mono hb1.size)
 have hB2 := hB1.trans (hb2.mono hB1.size)
 have m0 := (hb12.block _ (geB G0.out)).trans G0.out
 have m1 := (hb12.block _ (geB G1.out)).trans G1.out
 have m2 := (hb12.block _ (geB G2.out)).trans G2.out
 have m3 := (hb12.block _ (geB G3.out)).trans G3.out
 have x0 := block_cell m0 0
 have x1 := block_cell m0 1
 have o1 := block_cell m1 1
 have o2 := block_cell m1 2
 have o3 := block_cell m1 3
 clear m0 hb1 hb2 hB1
 by_cases hn : nodE node = 0
 case neg =>
  have hnb : (nodE node == 0) = false := by simpa using hn
  have hnb2 : (nodE node != 0) = true := by simpa using hn
  have HE := Lib.hid (P1.out hn)
  clear hn P1 P2 P3 P4
  have a0 := block_free m2 0
  have a1 := block_free m2 1
  have a2 := block_cell m2 0
  have a3 := block_cell m2 1
  have y0 := block_cell m3 0
  have y1 := block_cell m3 1
  have s2 := setCell_block (setCell_block m2 0 (.slice none 0 0)) 1 (.slice none 0 0)
  have hbX := (hB2.setCell (p := ⟨w.heap.size + 1 + 1, 0, none⟩) (by show w.heap.size <= w.heap.size + 1 + 1; omega) (.slice none 0 0)).setCell (p := ⟨w.heap.size + 1 + 1, 1, none⟩) (by show w.heap.size <= w.heap.size + 1 + 1; omega) (.slice none 0 0)
  have HS2 := Lib.hid s2
  clear s2 m2 m3
  go_wp2_with fail
  have k2' := block_cell HS2.out 0
  have k3' := block_cell HS2.out 1
  exact bodyPost_ret (v := .tuple #[.agg #[.slice none 0 0, .slice none 0 0], .int .i64 (nodE node)]) (by simp [results, Tryz.results8, go_sem, k2', k3']) rfl
   ⟨_, _, by rw [HE.out.1], by rw [HE.out.2]; exact ⟨SlS.nil _ _, SlS.nil _ _⟩, hbX⟩
 have hnb : (nodE node == 0) = true := by simpa using hn
 cases hf : fhas g.nodes node.id with
 | true =>
  have HE := Lib.hid (P2.out hn hf)
  have hz : fz = (fpos g.nodes node.id : Int) := by rw [<- HFZ.out, hf]; rfl
  subst hz
  have hp : (0 : Int) <= (fpos g.nodes node.id : Int) := by omega
  rw [hn]
  clear hn hf HFZ P1 P2 P3 P4 hnb
  have a0 := block_free m2 0
  have a1 := block_free m2 1
  have a2 := block_cell m2 0
  have a3 := block_cell m2 1
  have y0 := block_cell m3 0
  have y1 := block_cell m3 1
  have s2 := setCell_block (setCell_block m2 0 (.slice none 0 0)) 1 (.slice none 0 0)
  have hbX := (hB2.setCell (p := ⟨w.heap.size + 1 + 1, 0, none⟩) (by show w.heap.size <= w.heap.size + 1 + 1; omega) (.slice none 0 0)).setCell (p := ⟨w.heap.size + 1 + 1, 1, none⟩) (by show w.heap.size <= w.heap.size + 1 + 1; omega) (.slice none 0 0)
  have HS2 := Lib.hid s2
  clear s2 m2 m3
  go_wp2_with fail
  have k2' := block_cell HS2.out 0
  have k3' := block_cell HS2.out 1
  exact bodyPost_ret (v := .tuple #[.agg #[.slice none 0 0, .slice none 0 0], .int .i64 (7)]) (by simp [results, Tryz.results8, go_sem, k2', k3']) rfl
   ⟨_, _, by rw [HE.out.1], by rw [HE.out.2]; exact ⟨SlS.nil _ _, SlS.nil _ _⟩, hbX⟩
 | false =>
  have hz : fz = -1 := by rw [<- HFZ.out, hf]; rfl
  subst hz
  rw [hn]
  by_cases hl : 60 <= g.nodes.length
  ·have HE := Lib.hid (P3.out hn hf hl)
   have hl' : (60 : Int) <= (g.nodes.length : Int) := by omega
   clear hn hf HFZ P1 P2 P3 P4 hl hnb
   have a0 := block_free m2 0
   have a1 := block_free m2 1
   have a2 := block_cell m2 0
   have a3 := block_cell m2 1
   have y0 := block_cell m3 0
   have y1 := block_cell m3 1
   have s2 := setCell_block (setCell_block m2 0 (.slice none 0 0)) 1 (.slice none 0 0)
   have hbX := (hB2.setCell (p := ⟨w.heap.size + 1 + 1, 0, none⟩) (by show w.heap.size <= w.heap.size + 1 + 1; omega) (.slice none 0 0)).setCell (p := ⟨w.heap.size + 1 + 1, 1, none⟩) (by show w.heap.size <= w.heap.size + 1 + 1; omega) (.slice none 0 0)
   have HS2 := Lib.hid s2
   clear s2 m2 m3
   go_wp2_with fail
   have k2' := block_cell HS2.out 0
   have k3' := block_cell HS2.out 1
   exact bodyPost_ret (v := .tuple #[.agg #[.slice none 0 0, .slice none 0 0], .int .i64 (4)]) (by simp [results, Tryz.results8, go_sem, k2', k3']) rfl
    ⟨_, _, by rw [HE.out.1], by rw [HE.out.2]; exact ⟨SlS.nil _ _, SlS.nil _ _⟩, hbX⟩
  have HE := Lib.hid (P4.out hn hf (by omega))
  have hl' : ¬ (60 : Int) <= (g.nodes.length : Int) := by omega
  clear hn hf HFZ P1 P2 P3 P4 hnb
  have hfp := HFP.out
  obtain ⟨Arow, crow, xs, hvrow, _, _, hxall⟩ := HGS.out.1
  cases hvrow
  have hxs0 := hxall w (Stay.refl HBW.out)
  have HXR := Lib.hid hxs0.1
  have HXC := Lib.hid hxs0.2
  have HXS : Hid (∀ W', Stay w0 w W' -> Row nodL W' _ xs) := fun W' hW => (hxall W' hW).1
  clear hxs0 hxall
  have M2 := Lib.hid m2
  have M3 := Lib.hid m3
  obtain ⟨n0, ni, nz, nz1, nz2⟩ := info_parts nodT_info
  clear m2 m3 m1
  go_upto_block 1 with fail
  go_cut [9] (fun v wx => v = .int .i64 (fpos g.nodes node.id) /\ Below w2.heap.size w2 wx)
  case first =>
   go_wp2_with fail
   go_loopw [9] (fun i wr => ∃ k : Nat, k <= fpos g.nodes node.id /\ i = .int .i64 k /\ Below w2.heap.size w2 wr) (fun i _ => g.nodes.length - (intOf i).toNat)
   case atStart => exact ⟨0, Nat.zero_le _, rfl, Below.refl _ _⟩
   obtain ⟨k, hk, rfl, hbr⟩ := hrel
   have x0 := cell_below hbr x0
   have o1 := cell_below hbr o1
   have hb1r := hb12.trans (hbr.mono hb12.size)
   by_cases hkl : k < g.nodes.length
   ·obtain ⟨n, hd⟩ : ∃ d, g.nodes[k]? = some d := ⟨_, List.getElem?_eq_getElem hkl⟩
    have hkl' : (k : Int) < (g.nodes.length : Int) := by omega
    obtain ⟨gb, oo, hA, un, _, _, _, q0, _, _⟩ := nod_at (HG.out.below hb1r).1 hd
    subst hA
    by_cases hkf : k < fpos g.nodes node.id
    ·have hlo := HLO.out k n hkf hd
     have hlod : decide (n.id < node.id) = true := decide_eq_true hlo
     clear hd
     go_wp2_with fail
     go_quiet (fail)
     go_wp2_with fail
     go_roundw
     case rel => exact ⟨k + 1, by omega, by go_num, below_drewN hbr _⟩
     case measure => simp [intOf]; omega
    have hke : k = fpos g.nodes node.id := by omega
    have hhi := HHI.out n (by rw [<- hke]; exact hd)
    have hhid : decide (n.id < node.id) = false := decide_eq_false (by omega)
    have HKE := Lib.hid hke
    clear hd hke hhi hkf
    go_wp2_with fail
    go_quiet (fail)
    go_wp2_with fail
    go_meet
    exact ⟨by rw [HKE.out], below_drewN hbr _⟩
   have hke : k = fpos g.nodes node.id := by omega
   have hkl' : ¬ (k : Int) < (g.nodes.length : Int) := by omega
   have hkld : decide ((k : Int) < (g.nodes.length : Int)) = false := decide_eq_false hkl'
   have HKE := Lib.hid hke
   have hkld2 : decide (k < g.nodes.length) = false := decide_eq_false hkl
   clear hke
   go_wp2_with fail
   go_quiet (fail)
   go_wp2_with fail
   go_meet
   exact ⟨by rw [HKE.out], below_drewN hbr _⟩
  case rest =>
  obtain ⟨rfl, hb23⟩ := hcut
  obtain ⟨w3, rfl⟩ : ∃ x : World, x = wc := ⟨_, rfl⟩
  have hb13 := hb12.trans (hb23.mono hb12.size)
  have hB3 := hB2.trans (hb23.mono hB2.size)
  have x0 := cell_below hb23 x0
  have x1 := cell_below hb23 x1
  have o1 := cell_below hb23 o1
  have o2 := cell_below hb23 o2
  have o3 := cell_below hb23 o3
  have M2 := Lib.hid ((hb23.block _ (geB M2.out)).trans M2.out)
  have M3 := Lib.hid ((hb23.block _ (geB M3.out)).trans M3.out)
  clear hb23 hB2 hb12 HLO HHI
  have HFPL : Hid (fpos g.nodes node.id <= g.nodes.length) := hfp
  generalize fpos g.nodes node.id = k at *
  have hk0 : (0 : Int) <= (k : Int) := by omega
  have hkc : (k : Int) <= (c1 : Int) := by omega
  have hkc2 : (k : Int) <= (g.nodes.length : Int) := by omega
  have y0 := block_cell M3.out 0
  have y1 := block_cell M3.out 1
  go_wp2_with fail
  have hsl := cut_headN A1 c1 g.nodes.length k (by omega)
  obtain ⟨B, hBe⟩ : ∃ B, B = W0.heap.size := ⟨_, rfl⟩
  have hxl : xs.length = g.nodes.length * 3 := HXR.out.len
  have HN1 : Hid ((xs.take (k * 3)).length = k * 3) := by unfold Hid; rw [List.length_take, hxl]; omega
  have HN3 : Hid ((xs.drop (k * 3)).length = (g.nodes.length - k) * 3) := by unfold Hid; rw [List.length_drop, hxl]; omega
  have HONE : Hid (∀ u ∈ xs, u.oneCell' = true) := HXR.out.oneCell one_nod
  have hr3 : RdS w W0 (w.heap.size + 1 + 1 + 1) w3 (.slice none 0 0) (.slice none 0 0) := ⟨(Kp.refl _ _).below hb13, hB3, M3.out, by omega⟩
  refine wp_quiet_tail 6 (by kernel_rfl) (by kernel_rfl) ?_
  simp only [List.take_succ_cons, List.take_zero, List.drop_succ_cons, List.drop_zero]
  repeat (go_big_quiet_step (fail))
  refine wpQuiet_nil ?_
  intro _ hw'
  obtain ⟨nq3, hw''⟩ := hw'
  subst hw''
  clear hsl
  have hbz := below_drewN (Below.refl w3.heap.size w3) nq3
  have HR := Lib.hid (hr3.below hbz)
  generalize w3.drewN nq3 = wz at *
  have HNW : Hid (0 < k -> ∃ a, A1 = some a /\ ∀ j u, (xs.take (k * 3))[j]? = some u -> wz.cell? (a.add j) = some u) := fun h => by
   obtain ⟨a, h1, h2⟩ := head_cells HXC.out hfp h
   exact ⟨a, h1, fun j u hj => cell_below HR.out.b (h2 j u hj)⟩
  have HOA : Hid (Own wz B 29 3 (.slice none 0 0) 0 []) := Own.nil _ _ _ _
  have hBz : B <= wz.heap.size := by rw [hBe]; exact HR.out.k.s
  clear y0 y1 x0 x1 o1 o2 o3 hb13 hB3 M3 M2 hbz hr3
  go_upto_region 16 with (first
   | (at_builtin; refine wpList_append_q _ rfl (.tmp 70) (.tmp 74) _ rfl B 29 n0 (.agg #[.int .i64 0, .string .empty, .slice none 0 0]) 3 48 Tryz.underlying22 ni nz nz1 nz2 rfl (by decide) (.slice none 0 0) 0 [] rfl HOA.out A1 k c1 (xs.take (k * 3)) rfl HN1.out HNW.out (fun u hu => HONE.out u (List.mem_of_mem_take hu)) (by unfold maxLen; omega) (by omega) hBz ?_; intro v7 w7 hown7 hg7 hat7
      have hr7 := HR.out.grown (by rw [<- hBe]; exact HOA.out) hw0 (by decide) hg7
      have f0 := block_free hr7.q 0
      have r0 := block_cell hr7.q 0
      obtain ⟨A7, c7, hv7, _, _⟩ := hown7.form
      subst hv7))
  have HR2 := Lib.hid (hr7.setN (.slice A7 (k) c7))
  have hoa2 := hown7.same (hr7.same 0 (.slice A7 (k) c7) (T := 29) (by decide))
  clear f0 r0 hr7 hown7 hg7 hat7 HR HOA HNW
  generalize w7.setCell ⟨w.heap.size + 1 + 1 + 1, 0, none⟩ (.slice A7 (k) c7) = w8 at *
  have HB8 : Hid (B <= w8.heap.size) := by unfold Hid; rw [hBe]; exact HR2.out.k.s
  have q1 := HR2.out.old G1.out (by omega)
  have o1 := block_cell q1 1
  have o2 := block_cell q1 2
  have o3 := block_cell q1 3
  clear q1
  have hal : Below w8.heap.size w8 (w8.alloc (.cells #[.int .i64 node.id, .string node.kind, .slice Ar node.props.length cr] 29)) := (Below.refl _ _).alloc (Nat.le_refl _) _
  have HR := Lib.hid (HR2.out.below hal)
  have HBZ : Hid (B <= (w8.alloc (.cells #[.int .i64 node.id, .string node.kind, .slice Ar node.props.length cr] 29)).heap.size) := Nat.le_trans HB8.out hal.size
  have HNW : Hid (∀ j u, ([.int .i64 node.id, .string node.kind, .slice Ar node.props.length cr] : List Value)[j]? = some u -> (w8.alloc (.cells #[.int .i64 node.id, .string node.kind, .slice Ar node.props.length cr] 29)).cell? ⟨w8.heap.size, j, none⟩ = some u) := fun j u hj => by
   rw [World.cell?_alloc_at _ _ _ _ rfl]; simpa using hj
  have HON : Hid (∀ u ∈ ([.int .i64 node.id, .string node.kind, .slice Ar node.props.length cr] : List Value), u.oneCell' = true) := fun u hu => by
   simp at hu; rcases hu with rfl | rfl | rfl <;> rfl
  clear hal
  have hoa := hoa2.alloc (.cells #[.int .i64 node.id, .string node.kind, .slice Ar node.props.length cr] 29)
  rw [Nat.zero_add, List.nil_append] at hoa
  have HOA := Lib.hid hoa
  have y0 := block_cell HR2.out.q 0
  clear hoa hoa2
  go_upto_region 17 with (first
   | (at_builtin; refine wpList_append_q _ rfl (.tmp 78) (.tmp 81) _ rfl B 29 n0 (.agg #[.int .i64 0, .string .empty, .slice none 0 0]) 3 48 Tryz.underlying22 ni nz nz1 nz2 rfl (by decide) (.slice A7 k c7) k (xs.take (k * 3)) rfl HOA.out (some ⟨w8.heap.size, 0, none⟩) 1 1 [.int .i64 node.id, .string node.kind, .slice Ar node.props.length cr] rfl rfl (fun _ => ⟨_, rfl, fun j u hj => by rw [addr_add, Nat.zero_add]; exact HNW.out j u hj⟩) HON.out (by unfold maxLen; omega) (by omega) HBZ.out ?_; intro v7 w7 hown7 hg7 hat7
      have hr7 := HR.out.grown (by rw [<- hBe]; exact HOA.out) hw0 (by decide) hg7
      have f0 := block_free hr7.q 0
      have r0 := block_cell hr7.q 0
      obtain ⟨A7, c7, hv7, _, _⟩ := hown7.form
      subst hv7))
  clear HR2
  have HR2 := Lib.hid (hr7.setN (.slice A7 (k + 1) c7))
  have hoa2 := hown7.same (hr7.same 0 (.slice A7 (k + 1) c7) (T := 29) (by decide))
  clear f0 r0 hr7 hown7 hg7 hat7 HR HOA HNW
  generalize w7.setCell ⟨w.heap.size + 1 + 1 + 1, 0, none⟩ (.slice A7 (k + 1) c7) = w8 at *
  have HB8 : Hid (B <= w8.heap.size) := by unfold Hid; rw [hBe]; exact HR2.out.k.s
  have q0 := HR2.out.old G0.out (by omega)
  have x0 := block_cell q0 0
  have y0 := block_cell HR2.out.q 0
  have hkn : (k : Int) <= (g.nodes.length : Int) := by omega
  have hsl := cut_tailN A1 c1 g.nodes.length k (by omega)
  have HTC := Lib.hid (tail_cells HXC.out (by omega : g.nodes.length <= c1) HFPL.out)
  obtain ⟨At, hAt⟩ : ∃ At, At = (if c1 = k then A1 else A1.map (fun a => a.add (k * 3))) := ⟨_, rfl⟩
  rw [<- hAt] at hsl HTC
  clear hAt q0
  go_wp2_with fail
  refine wp_quiet_tail 6 (by kernel_rfl) (by kernel_rfl) ?_
  simp only [List.take_succ_cons, List.take_zero, List.drop_succ_cons, List.drop_zero]
  repeat (go_big_quiet_step (fail))
  refine wpQuiet_nil ?_
  intro _ hw'
  obtain ⟨nq3, hw''⟩ := hw'
  subst hw''
  clear hsl
  have hbz := below_drewN (Below.refl w8.heap.size w8) nq3
  have HR := Lib.hid (HR2.out.below hbz)
  have HOA := Lib.hid (hoa2.below hbz)
  have HBZ : Hid (B <= (w8.drewN nq3).heap.size) := Nat.le_trans HB8.out hbz.size
  clear hbz hoa2 HB8 HR2
  generalize w8.drewN nq3 = wz at *
  have HNW : Hid (0 < g.nodes.length - k -> ∃ a, At = some a /\ ∀ j u, (xs.drop (k * 3))[j]? = some u -> wz.cell? (a.add j) = some u) := fun h => by
   obtain ⟨a, h1, h2⟩ := HTC.out h
   exact ⟨a, h1, fun j u hj => cell_below HR.out.b (h2 j u hj)⟩
  go_upto_region 18 with (first
   | (at_builtin; refine wpList_append_q _ rfl (.tmp 85) (.tmp 89) _ rfl B 29 n0 (.agg #[.int .i64 0, .string .empty, .slice none 0 0]) 3 48 Tryz.underlying22 ni nz nz1 nz2 rfl (by decide) (.slice A7 (k + 1) c7) (k + 1) (xs.take (k * 3) ++ [.int .i64 node.id, .string node.kind, .slice Ar node.props.length cr]) rfl HOA.out At (g.nodes.length - k) (c1 - k) (xs.drop (k * 3)) rfl HN3.out HNW.out (fun u hu => HONE.out u (List.mem_of_mem_drop hu)) (by unfold maxLen; omega) (by omega) HBZ.out ?_; intro v7 w7 hown7 hg7 hat7
      have hr7 := HR.out.grown (by rw [<- hBe]; exact HOA.out) hw0 (by decide) hg7
      have f0 := block_free hr7.q 0
      have r0 := block_cell hr7.q 0
      obtain ⟨A7, c7, hv7, _, _⟩ := hown7.form
      subst hv7))
  have HR2 := Lib.hid (hr7.setN (.slice A7 (k + 1 + (g.nodes.length - k)) c7))
  have hoa2 := hown7.same (hr7.same 0 (.slice A7 (k + 1 + (g.nodes.length - k)) c7) (T := 29) (by decide))
  clear f0 r0 hr7 hown7 hg7 hat7 HR HOA HNW
  generalize w7.setCell ⟨w.heap.size + 1 + 1 + 1, 0, none⟩ (.slice A7 (k + 1 + (g.nodes.length - k)) c7) = w8 at *
  have HB8 : Hid (B <= w8.heap.size) := by unfold Hid; rw [hBe]; exact HR2.out.k.s
  have q0 := HR2.out.old G0.out (by omega)
  have x1 := block_cell q0 1
  have y1 := block_cell HR2.out.q 1
  have f1 := block_free HR2.out.q 1
  clear q0
  go_upto_region 19 with fail
  have HR := HR2
  clear HR2
  have HR2 := Lib.hid (HR.out.setT (.slice A2 g.ties.length c2))
  have HOA := Lib.hid (hoa2.same (HR.out.same 1 (.slice A2 g.ties.length c2) (T := 29) (by decide)))
  clear hoa2 HR x1 y1 f1 HB8
  generalize w8.setCell ⟨w.heap.size + 1 + 1 + 1, 1, none⟩ (.slice A2 g.ties.length c2) = w8 at *
  have m2 := HR2.out.old G2.out (by omega)
  have a0 := block_free m2 0
  have a1 := block_free m2 1
  have a2 := block_cell m2 0
  have a3 := block_cell m2 1
  have y0 := block_cell HR2.out.q 0
  have y1 := block_cell HR2.out.q 1
  have s2 := setCell_block (setCell_block m2 0 (.slice A7 (k + 1 + (g.nodes.length - k)) c7)) 1 (.slice A2 g.ties.length c2)
  have hbX := (HR2.out.b.setCell (p := ⟨w.heap.size + 1 + 1, 0, none⟩) (by show w.heap.size <= w.heap.size + 1 + 1; omega) (.slice A7 (k + 1 + (g.nodes.length - k)) c7)).setCell (p := ⟨w.heap.size + 1 + 1, 1, none⟩) (by show w.heap.size <= w.heap.size + 1 + 1; omega) (.slice A2 g.ties.length c2)
  have HS2 := Lib.hid s2
  have HSM : Hid (∀ {T : TypeId}, 25 ≠ T -> Same T w8 ((w8.setCell ⟨w.heap.size + 1 + 1, 0, none⟩ (.slice A7 (k + 1 + (g.nodes.length - k)) c7)).setCell ⟨w.heap.size + 1 + 1, 1, none⟩ (.slice A2 g.ties.length c2))) := fun hT => (Same.setCell (p := ⟨w.heap.size + 1 + 1, 0, none⟩) m2 hT (.slice A7 (k + 1 + (g.nodes.length - k)) c7)).trans (Same.setCell (p := ⟨w.heap.size + 1 + 1, 1, none⟩) (setCell_block m2 0 (.slice A7 (k + 1 + (g.nodes.length - k)) c7)) hT (.slice A2 g.ties.length c2))
  have HBX := Lib.hid hbX
  have HST : Hid (∀ W', Stay w0 ((w8.setCell ⟨w.heap.size + 1 + 1, 0, none⟩ (.slice A7 (k + 1 + (g.nodes.length - k)) c7)).setCell ⟨w.heap.size + 1 + 1, 1, none⟩ (.slice A2 g.ties.length c2)) W' -> Stay w0 w W') := fun W' hW => hW.from HBX.out
  clear s2 m2 hbX
  go_wp2_with fail
  have k2' := block_cell HS2.out 0
  have k3' := block_cell HS2.out 1
  refine bodyPost_ret (v := .tuple #[.agg #[.slice A7 (k + 1 + (g.nodes.length - k)) c7, .slice A2 g.ties.length c2], .int .i64 (0)]) (by simp [results, Tryz.results8, go_sem, k2', k3']) rfl
   ⟨_, _, by rw [HE.out.1], by rw [HE.out.2]; exact ⟨Own.slS (L := nodL) (by rw [show (g.nodes.take k ++ node :: g.nodes.drop k).length = k + 1 + (g.nodes.length - k) by rw [List.length_append, List.length_cons, List.length_take, List.length_drop, Nat.min_eq_left hfp]; omega]; exact HOA.out.same (HSM.out (by decide))) (by decide) (fun W' hW => Row.insert (HXS.out W' (HST.out W' hW)) k hfp ⟨_, rfl, HOB.out.i, HOB.out.k, HOB.out.r.below hW.1⟩), HGS.out.2.stay HST.out⟩, HBX.out⟩
theorem gone_parts (g : Grf) (node : Nod) (prop : Prp) (tie : Tie) (h : grfE g = 0) : (fhas g.nodes node.id = false -> doE g ⟨2, node, prop, tie⟩ = 5 /\ doG g ⟨2, node, prop, tie⟩ = ⟨[], []⟩) /\
 (fhas g.nodes node.id = true -> doE g ⟨2, node, prop, tie⟩ = 0 /\ doG g ⟨2, node, prop, tie⟩ = ⟨g.nodes.take (fpos g.nodes node.id) ++ g.nodes.drop (fpos g.nodes node.id + 1), g.ties.filter fun t => !touch node.id t⟩) := by
 obtain ⟨d1, d2, d3⟩ := doE_right h ⟨2, node, prop, tie⟩
 have e : opE g ⟨2, node, prop, tie⟩ = (if fhas g.nodes node.id then 0 else 5) := by unfold opE; rw [if_neg (by show ¬ (2 : Int) = 1; decide), if_pos rfl]
 have eG : opG g ⟨2, node, prop, tie⟩ = goneG g node.id := by unfold opG; rw [if_neg (by show ¬ (2 : Int) = 1; decide), if_pos rfl]
 refine ⟨fun hf => ?_, fun hf => ?_⟩
 ·have h1 : opE g ⟨2, node, prop, tie⟩ = 5 := by rw [e, if_neg (by rw [hf]; simp)]
  exact ⟨by rw [d1, h1], d2 (by rw [h1]; omega)⟩
 have h1 : opE g ⟨2, node, prop, tie⟩ = 0 := by rw [e, if_pos hf]
 exact ⟨by rw [d1, h1], by rw [d3 h1, eG]; rfl⟩
set_option maxRecDepth 100000 in
set_option maxHeartbeats 32000000 in
theorem rdo_gone (g : Grf) (node : Nod) (prop : Prp) (tie : Tie) (vn vt : Value) (Ar : Option Addr) (cr : Nat) (w0 w : World) (hbw0 : Below w0.heap.size w0 w) (hgs : GrfS w0 w vn vt g) (ho : OprR w0 (.slice Ar node.props.length cr) ⟨2, node, prop, tie⟩) (h0 : grfE g = 0) :
 Calls Tryz.prog 8 #[.agg #[vn, vt], .agg #[.int .i64 2, .int .i64 node.id, .string node.kind, .slice Ar node.props.length cr, .string prop.name, .int .i64 prop.v.ty, .int .i64 prop.v.n, .string prop.v.s, .string tie.bond, .int .i64 tie.src, .int .i64 tie.dst]] w (RetGI w0 (doG g ⟨2, node, prop, tie⟩) (doE g ⟨2, node, prop, tie⟩) w) := by
 have hg := hgs.r hbw0
 have HGS := Lib.hid hgs
 have HBW := Lib.hid hbw0
 have hobase := ho
 have ho := hobase.below hbw0
 have HOB := Lib.hid hobase
 clear hobase hgs hbw0
 obtain ⟨A1, c1, rfl, _, _⟩ := hg.1.form
 obtain ⟨A2, c2, rfl, _, _⟩ := hg.2.form
 obtain ⟨W0, hW0⟩ : ∃ W0, W0 = (((w.alloc (.cells #[.slice A1 g.nodes.length c1, .slice A2 g.ties.length c2] 25)).alloc (.cells #[.int .i64 2, .int .i64 node.id, .string node.kind, .slice Ar node.props.length cr, .string prop.name, .int .i64 prop.v.ty, .int .i64 prop.v.n, .string prop.v.s, .string tie.bond, .int .i64 tie.src, .int .i64 tie.dst] 37)).alloc (.cells #[.slice none 0 0, .slice none 0 0] 25)).alloc (.cells #[.slice none 0 0, .slice none 0 0] 25) := ⟨_, rfl⟩
 have hb0 : Below w.heap.size w W0 := by rw [hW0]; exact ((((Below.refl _ _).alloc (Nat.le_refl _) _).alloc (by simp only [World.size_alloc]; omega) _).alloc (by simp only [World.size_alloc]; omega) _).alloc (by simp only [World.size_alloc]; omega) _
 have g0 : W0.heap[w.heap.size]? = some (.cells #[.slice A1 g.nodes.length c1, .slice A2 g.ties.length c2] 25 (0, 0)) := by
  rw [hW0, Below.heap_alloc _ _ _ (by simp only [World.size_alloc]; omega), Below.heap_alloc _ _ _ (by simp only [World.size_alloc]; omega), Below.heap_alloc _ _ _ (by simp only [World.size_alloc]; omega)]; exact heap_alloc_new _ _
 have g1 : W0.heap[w.heap.size + 1]? = some (.cells #[.int .i64 2, .int .i64 node.id, .string node.kind, .slice Ar node.props.length cr, .string prop.name, .int .i64 prop.v.ty, .int .i64 prop.v.n, .string prop.v.s, .string tie.bond, .int .i64 tie.src, .int .i64 tie.dst] 37 (0, 0)) := by
  have := heap_alloc_new (w.alloc (.cells #[.slice A1 g.nodes.length c1, .slice A2 g.ties.length c2] 25)) (.cells #[.int .i64 2, .int .i64 node.id, .string node.kind, .slice Ar node.props.length cr, .string prop.name, .int .i64 prop.v.ty, .int .i64 prop.v.n, .string prop.v.s, .string tie.bond, .int .i64 tie.src, .int .i64 tie.dst] 37); rw [hW0, Below.heap_alloc _ _ _ (by simp only [World.size_alloc]; omega), Below.heap_alloc _ _ _ (by simp only [World.size_alloc]; omega)]; simpa using this
 have g2 : W0.heap[w.heap.size + 1 + 1]? = some (.cells #[.slice none 0 0, .slice none 0 0] 25 (0, 0)) := by
  have := heap_alloc_new ((w.alloc (.cells #[.slice A1 g.nodes.length c1, .slice A2 g.ties.length c2] 25)).alloc (.cells #[.int .i64 2, .int .i64 node.id, .string node.kind, .slice Ar node.props.length cr, .string prop.name, .int .i64 prop.v.ty, .int .i64 prop.v.n, .string prop.v.s, .string tie.bond, .int .i64 tie.src, .int .i64 tie.dst] 37)) (.cells #[.slice none 0 0, .slice none 0 0] 25); rw [hW0, Below.heap_alloc _ _ _ (by simp only [World.size_alloc]; omega)]; simpa using this
 have g3 : W0.heap[w.heap.size + 1 + 1 + 1]? = some (.cells #[.slice none 0 0, .slice none 0 0] 25 (0, 0)) := by
  have := heap_alloc_new (((w.alloc (.cells #[.slice A1 g.nodes.length c1, .slice A2 g.ties.length c2] 25)).alloc (.cells #[.int .i64 2, .int .i64 node.id, .string node.kind, .slice Ar node.props.length cr, .string prop.name, .int .i64 prop.v.ty, .int .i64 prop.v.n, .string prop.v.s, .string tie.bond, .int .i64 tie.src, .int .i64 tie.dst] 37)).alloc (.cells #[.slice none 0 0, .slice none 0 0] 25)) (.cells #[.slice none 0 0, .slice none 0 0] 25); rw [hW0]; simpa using this
 have hW0' := hW0.symm
 have hw0 := hb0.size
 obtain ⟨b1, b2⟩ := gone_parts g node prop tie h0
 have P1 := Lib.hid b1
 have P2 := Lib.hid b2
 obtain ⟨k1, k2, k3, k4⟩ := grf_ok h0
 have hx := rgfind_any g _ _ node.id W0 (hg.below hb0)
 rw [idx_nod k3] at hx
 have x0 := block_cell g0 0
 have x1 := block_cell g0 1
 have o0 := block_cell g1 0
 have o1 := block_cell g1 1
 have o2 := block_cell g1 2
 have o3 := block_cell g1 3
 have G0 := Lib.hid g0
 have G1 := Lib.hid g1
 have G2 := Lib.hid g2
 have G3 := Lib.hid g3
 have HGW := Lib.hid hg
 have HOW := Lib.hid ho
 have HG := Lib.hid (hg.below hb0)
 have HO := Lib.hid (ho.below hb0)
 have HFHL : Hid (fhas g.nodes node.id = true -> fpos g.nodes node.id < g.nodes.length) := fun h => by obtain ⟨n, hn⟩ := fhas_some' h; exact (List.getElem?_eq_some_iff.1 hn).1
 generalize hfz : (if fhas g.nodes node.id = true then (fpos g.nodes node.id : Int) else -1) = fz at *
 have HFZ := Lib.hid hfz
 clear hg ho g0 g1 g2 g3 hW0 hfz
 go_enter Tryz.func8, Tryz.ntmps8
 go_wp2_with fail
 clear hW0'
 refine hx.mono ?_
 clear hx
 rintro e w1 ⟨rfl, hb1⟩
 have hB1 := hb0.trans (hb1.mono hw0)
 have m0 := (hb1.block _ (geB G0.out)).trans G0.out
 have m1 := (hb1.block _ (geB G1.out)).trans G1.out
 have m2 := (hb1.block _ (geB G2.out)).trans G2.out
 have m3 := (hb1.block _ (geB G3.out)).trans G3.out
 have x0 := block_cell m0 0
 have x1 := block_cell m0 1
 have o0 := block_cell m1 0
 have o1 := block_cell m1 1
 clear m0
 generalize doE g ⟨2, node, prop, tie⟩ = de at *
 generalize doG g ⟨2, node, prop, tie⟩ = dg at *
 clear b1 b2 h0 k3 k4
 cases hf : fhas g.nodes node.id with
 | false =>
  have HE := Lib.hid (P1.out hf)
  have hz : fz = -1 := by rw [<- HFZ.out, hf]; rfl
  subst hz
  have hB2 := hB1
  clear hf HFZ P1 P2 HFHL
  have a0 := block_free m2 0
  have a1 := block_free m2 1
  have a2 := block_cell m2 0
  have a3 := block_cell m2 1
  have y0 := block_cell m3 0
  have y1 := block_cell m3 1
  have s2 := setCell_block (setCell_block m2 0 (.slice none 0 0)) 1 (.slice none 0 0)
  have hbX := (hB2.setCell (p := ⟨w.heap.size + 1 + 1, 0, none⟩) (by show w.heap.size <= w.heap.size + 1 + 1; omega) (.slice none 0 0)).setCell (p := ⟨w.heap.size + 1 + 1, 1, none⟩) (by show w.heap.size <= w.heap.size + 1 + 1; omega) (.slice none 0 0)
  have HS2 := Lib.hid s2
  clear s2 m2 m3
  go_wp2_with fail
  have k2' := block_cell HS2.out 0
  have k3' := block_cell HS2.out 1
  exact bodyPost_ret (v := .tuple #[.agg #[.slice none 0 0, .slice none 0 0], .int .i64 (5)]) (by simp [results, Tryz.results8, go_sem, k2', k3']) rfl
   ⟨_, _, by rw [HE.out.1], by rw [HE.out.2]; exact ⟨SlS.nil _ _, SlS.nil _ _⟩, hbX⟩
 | true =>
  have HE := Lib.hid (P2.out hf)
  have hz : fz = (fpos g.nodes node.id : Int) := by rw [<- HFZ.out, hf]; rfl
  subst hz
  have hkl := HFHL.out hf
  obtain ⟨Arow, crow, xs, hvrow, _, _, hxall⟩ := HGS.out.1
  cases hvrow
  have hxs0 := hxall w (Stay.refl HBW.out)
  have HXR := Lib.hid hxs0.1
  have HXC := Lib.hid hxs0.2
  have HXS : Hid (∀ W', Stay w0 w W' -> Row nodL W' _ xs) := fun W' hW => (hxall W' hW).1
  clear hxs0 hxall
  obtain ⟨n0, ni, nz, nz1, nz2⟩ := info_parts nodT_info
  obtain ⟨B, hBe⟩ : ∃ B, B = W0.heap.size := ⟨_, rfl⟩
  have hr3 : RdS w W0 (w.heap.size + 1 + 1 + 1) w1 (.slice none 0 0) (.slice none 0 0) := ⟨(Kp.refl _ _).below hb1, hB1, m3, by omega⟩
  have HR0 := Lib.hid hr3
  have y0 := block_cell m3 0
  have y1 := block_cell m3 1
  clear m2 m3 m1 hf HFZ P1 P2 HFHL hr3
  generalize fpos g.nodes node.id = k at *
  have hk0 : ¬ (k : Int) < 0 := by omega
  have hk1 : (0 : Int) <= (k : Int) := by omega
  have hkc : (k : Int) <= (c1 : Int) := by omega
  have hkc2 : (k : Int) <= (g.nodes.length : Int) := by omega
  go_wp2_with fail
  have hsl := cut_headN A1 c1 g.nodes.length k (by omega)
  have hxl : xs.length = g.nodes.length * 3 := HXR.out.len
  have HN1 : Hid ((xs.take (k * 3)).length = k * 3) := by unfold Hid; rw [List.length_take, hxl]; omega
  have HN3 : Hid ((xs.drop ((k + 1) * 3)).length = (g.nodes.length - (k + 1)) * 3) := by unfold Hid; rw [List.length_drop, hxl]; omega
  have HONE : Hid (∀ u ∈ xs, u.oneCell' = true) := HXR.out.oneCell one_nod
  refine wp_quiet_tail 6 (by kernel_rfl) (by kernel_rfl) ?_
  simp only [List.take_succ_cons, List.take_zero, List.drop_succ_cons, List.drop_zero]
  repeat (go_big_quiet_step (fail))
  refine wpQuiet_nil ?_
  intro _ hw'
  obtain ⟨nq3, hw''⟩ := hw'
  subst hw''
  clear hsl
  have hbz := below_drewN (Below.refl w1.heap.size w1) nq3
  have HR := Lib.hid (HR0.out.below hbz)
  generalize w1.drewN nq3 = wz at *
  have HNW : Hid (0 < k -> ∃ a, A1 = some a /\ ∀ j u, (xs.take (k * 3))[j]? = some u -> wz.cell? (a.add j) = some u) := fun h => by
   obtain ⟨a, h1, h2⟩ := head_cells HXC.out (by omega) h
   exact ⟨a, h1, fun j u hj => cell_below HR.out.b (h2 j u hj)⟩
  have HOA : Hid (Own wz B 29 3 (.slice none 0 0) 0 []) := Own.nil _ _ _ _
  have hBz : B <= wz.heap.size := by rw [hBe]; exact HR.out.k.s
  clear y0 y1 x0 x1 o0 o1 hbz
  go_upto_region 24 with (first
   | (at_builtin; refine wpList_append_q _ rfl (.tmp 102) (.tmp 106) _ rfl B 29 n0 (.agg #[.int .i64 0, .string .empty, .slice none 0 0]) 3 48 Tryz.underlying22 ni nz nz1 nz2 rfl (by decide) (.slice none 0 0) 0 [] rfl HOA.out A1 k c1 (xs.take (k * 3)) rfl HN1.out HNW.out (fun u hu => HONE.out u (List.mem_of_mem_take hu)) (by unfold maxLen; omega) (by omega) hBz ?_; intro v7 w7 hown7 hg7 hat7
      have hr7 := HR.out.grown (by rw [<- hBe]; exact HOA.out) hw0 (by decide) hg7
      have f0 := block_free hr7.q 0
      have r0 := block_cell hr7.q 0
      obtain ⟨A7, c7, hv7, _, _⟩ := hown7.form
      subst hv7))
  have HR2 := Lib.hid (hr7.setN (.slice A7 (k) c7))
  have hoa2 := hown7.same (hr7.same 0 (.slice A7 (k) c7) (T := 29) (by decide))
  clear f0 r0 hr7 hown7 hg7 hat7 HR HOA HNW
  generalize w7.setCell ⟨w.heap.size + 1 + 1 + 1, 0, none⟩ (.slice A7 (k) c7) = w8 at *
  have HB8 : Hid (B <= w8.heap.size) := by unfold Hid; rw [hBe]; exact HR2.out.k.s
  rw [Nat.zero_add, List.nil_append] at hoa2
  have q0 := HR2.out.old G0.out (by omega)
  have x0 := block_cell q0 0
  have y0 := block_cell HR2.out.q 0
  have hkn : (k : Int) + 1 <= (g.nodes.length : Int) := by omega
  have hkn0 : (0 : Int) <= (k : Int) + 1 := by omega
  have hsl := cut_tailN A1 c1 g.nodes.length (k + 1) (by omega)
  have HTC := Lib.hid (tail_cells HXC.out (by omega : g.nodes.length <= c1) (by omega : k + 1 <= g.nodes.length))
  obtain ⟨At, hAt⟩ : ∃ At, At = (if c1 = k + 1 then A1 else A1.map (fun a => a.add ((k + 1) * 3))) := ⟨_, rfl⟩
  rw [<- hAt] at hsl HTC
  clear hAt q0
  rw [Int.natCast_succ] at hsl
  go_wp2_with fail
  refine wp_quiet_tail 7 (by kernel_rfl) (by kernel_rfl) ?_
  simp only [List.take_succ_cons, List.take_zero, List.drop_succ_cons, List.drop_zero]
  repeat (go_big_quiet_step (fail))
  refine wpQuiet_nil ?_
  intro _ hw'
  obtain ⟨nq3, hw''⟩ := hw'
  subst hw''
  clear hsl
  have hbz := below_drewN (Below.refl w8.heap.size w8) nq3
  have HR := Lib.hid (HR2.out.below hbz)
  have HOA := Lib.hid (hoa2.below hbz)
  have HBZ : Hid (B <= (w8.drewN nq3).heap.size) := Nat.le_trans HB8.out hbz.size
  clear hbz hoa2 HB8 HR2
  generalize w8.drewN nq3 = wz at *
  have HNW : Hid (0 < g.nodes.length - (k + 1) -> ∃ a, At = some a /\ ∀ j u, (xs.drop ((k + 1) * 3))[j]? = some u -> wz.cell? (a.add j) = some u) := fun h => by
   obtain ⟨a, h1, h2⟩ := HTC.out h
   exact ⟨a, h1, fun j u hj => cell_below HR.out.b (h2 j u hj)⟩
  go_upto_region 25 with (first
   | (at_builtin; refine wpList_append_q _ rfl (.tmp 110) (.tmp 115) _ rfl B 29 n0 (.agg #[.int .i64 0, .string .empty, .slice none 0 0]) 3 48 Tryz.underlying22 ni nz nz1 nz2 rfl (by decide) (.slice A7 k c7) k (xs.take (k * 3)) rfl HOA.out At (g.nodes.length - (k + 1)) (c1 - (k + 1)) (xs.drop ((k + 1) * 3)) rfl HN3.out HNW.out (fun u hu => HONE.out u (List.mem_of_mem_drop hu)) (by unfold maxLen; omega) (by omega) HBZ.out ?_; intro v7 w7 hown7 hg7 hat7
      have hr7 := HR.out.grown (by rw [<- hBe]; exact HOA.out) hw0 (by decide) hg7
      have f0 := block_free hr7.q 0
      have r0 := block_cell hr7.q 0
      obtain ⟨A7, c7, hv7, _, _⟩ := hown7.form
      subst hv7))
  have HR2 := Lib.hid (hr7.setN (.slice A7 (k + (g.nodes.length - (k + 1))) c7))
  have hoa2 := hown7.same (hr7.same 0 (.slice A7 (k + (g.nodes.length - (k + 1))) c7) (T := 29) (by decide))
  clear f0 r0 hr7 hown7 hg7 hat7 HR HOA HNW
  generalize w7.setCell ⟨w.heap.size + 1 + 1 + 1, 0, none⟩ (.slice A7 (k + (g.nodes.length - (k + 1))) c7) = w8 at *
  have HB8 : Hid (B <= w8.heap.size) := by unfold Hid; rw [hBe]; exact HR2.out.k.s
  have HON := Lib.hid hoa2
  obtain ⟨nn, hnn⟩ : ∃ nn, nn = k + (g.nodes.length - (k + 1)) := ⟨_, rfl⟩
  rw [<- hnn] at HON HR2
  rw [<- hnn]
  have HNN := Lib.hid hnn
  obtain ⟨t0, ti, tz, tz1, tz2⟩ := info_parts tieT_info
  clear hnn hoa2 HTC HN1 HN3 HONE
  generalize A7 = An at *
  generalize c7 = cn at *
  go_upto_region 26 with fail
  go_loopw [10] (fun i wr => ∃ (j : Nat) (At : Option Addr) (nt ct : Nat), j <= g.ties.length /\ i = .int .i64 j /\ Hid (RdS w W0 (w.heap.size + 1 + 1 + 1) wr (.slice An nn cn) (.slice At nt ct)) /\ Hid (Own wr B 35 3 (.slice At nt ct) nt (((g.ties.take j).filter fun t => !touch node.id t).flatMap Tie.enc)) /\ Hid (Own wr B 29 3 (.slice An nn cn) nn (xs.take (k * 3) ++ xs.drop ((k + 1) * 3))) /\ nt <= j) (fun i _ => g.ties.length - (intOf i).toNat)
  case atStart => exact ⟨0, none, 0, 0, Nat.zero_le _, rfl, HR2, by rw [List.take_zero]; exact Own.nil _ _ _ _, HON, Nat.zero_le _⟩
  obtain ⟨j, At, nt, ct, hj, rfl, HRr, HOT, HONr, hntj⟩ := hrel
  have q0 := HRr.out.old G0.out (by omega)
  have q1 := HRr.out.old G1.out (by omega)
  have x1 := block_cell q0 1
  have o1 := block_cell q1 1
  have y0 := block_cell HRr.out.q 0
  have y1 := block_cell HRr.out.q 1
  clear q0 q1
  by_cases hlt : j < g.ties.length
  ·obtain ⟨t, ht⟩ : ∃ d, g.ties[j]? = some d := ⟨_, List.getElem?_eq_getElem hlt⟩
   have hlt' : (j : Int) < (g.ties.length : Int) := by omega
   obtain ⟨gb, oo, hA, htok, u0, u1, u2⟩ := tie_at (HGW.out.2.below HRr.out.b) ht
   subst hA
   have HST : Hid (((g.ties.take (j + 1)).filter fun t => !touch node.id t) = ((g.ties.take j).filter fun t => !touch node.id t) ++ if touch node.id t = true then [] else [t]) := by
    unfold Hid
    rw [List.take_add_one, ht, List.filter_append]
    congr 1
    cases e : touch node.id t <;> simp [e]
   have HTT := Lib.hid ht
   clear ht htok
   by_cases h1 : t.src = node.id
   ·have hb1 : (t.src == node.id) = true := by simpa using h1
    have hb2 : (t.src != node.id) = false := by simpa using h1
    have HN : Hid (((g.ties.take (j + 1)).filter fun t => !touch node.id t) = ((g.ties.take j).filter fun t => !touch node.id t)) := by
     unfold Hid; rw [HST.out, if_pos (by unfold touch; simp [h1]), List.append_nil]
    clear HST
    go_wp2_with fail
    go_quiet (fail)
    go_wp2_with fail
    go_roundw
    case rel => exact ⟨j + 1, At, nt, ct, by omega, by go_num, Lib.hid (HRr.out.below (below_drewN (Below.refl _ _) _)), by rw [HN.out]; exact HOT.out.drewN _, HONr.out.drewN _, by omega⟩
    case measure => simp [intOf]; omega
   by_cases h2 : t.dst = node.id
   ·have hb1 : (t.src == node.id) = false := by simpa using h1
    have hb2 : (t.src != node.id) = true := by simpa using h1
    have hb3 : (t.dst == node.id) = true := by simpa using h2
    have hb4 : (t.dst != node.id) = false := by simpa using h2
    have HN : Hid (((g.ties.take (j + 1)).filter fun t => !touch node.id t) = ((g.ties.take j).filter fun t => !touch node.id t)) := by
     unfold Hid; rw [HST.out, if_pos (by unfold touch; simp [h2]), List.append_nil]
    clear HST
    go_wp2_with fail
    go_quiet (fail)
    go_wp2_with fail
    go_roundw
    case rel => exact ⟨j + 1, At, nt, ct, by omega, by go_num, Lib.hid (HRr.out.below (below_drewN (Below.refl _ _) _)), by rw [HN.out]; exact HOT.out.drewN _, HONr.out.drewN _, by omega⟩
    case measure => simp [intOf]; omega
   have hb1 : (t.src == node.id) = false := by simpa using h1
   have hb2 : (t.src != node.id) = true := by simpa using h1
   have hb3 : (t.dst == node.id) = false := by simpa using h2
   have hb4 : (t.dst != node.id) = true := by simpa using h2
   have HN : Hid (((g.ties.take (j + 1)).filter fun t => !touch node.id t) = ((g.ties.take j).filter fun t => !touch node.id t) ++ [t]) := by
    unfold Hid; rw [HST.out, if_neg (by unfold touch; simp [h1, h2])]
   clear HST
   go_wp2_with fail
   go_quiet (fail)
   go_wp2_with fail
   have hbz := below_drewN (Below.refl wr.heap.size wr) nq
   have HRz := Lib.hid (HRr.out.below hbz)
   have HOz := Lib.hid (HOT.out.drewN nq)
   have HONz := Lib.hid (HONr.out.drewN nq)
   generalize wr.drewN nq = wz at *
   clear hbz x1 o1 y0 y1 u0 u1 u2
   have q0 := HRz.out.old G0.out (by omega)
   have x1 := block_cell q0 1
   have y1 := block_cell HRz.out.q 1
   obtain ⟨gb', oo', hA', htok, u0, u1, u2⟩ := tie_at (HGW.out.2.below HRz.out.b) HTT.out
   cases hA'
   clear q0 htok
   have hal : Below wz.heap.size wz ((wz.alloc (.cells #[.string (t).bond, .int .i64 (t).src, .int .i64 (t).dst] 35)).drew) := ((Below.refl _ _).alloc (Nat.le_refl _) _).drew
   have HR := Lib.hid (HRz.out.below hal)
   have HBZ : Hid (B <= ((wz.alloc (.cells #[.string (t).bond, .int .i64 (t).src, .int .i64 (t).dst] 35)).drew).heap.size) := by
    have h1 := HRz.out.k.s
    have h2 := hal.size
    unfold Hid; rw [hBe]; omega
   have HNW : Hid (∀ j u, (Tie.enc (t))[j]? = some u -> ((wz.alloc (.cells #[.string (t).bond, .int .i64 (t).src, .int .i64 (t).dst] 35)).drew).cell? ⟨wz.heap.size, j, none⟩ = some u) := fun j u hj => by
    show (wz.alloc (.cells #[.string (t).bond, .int .i64 (t).src, .int .i64 (t).dst] 35)).cell? ⟨wz.heap.size, j, none⟩ = some u
    rw [World.cell?_alloc_at _ _ _ _ rfl]; simpa [Tie.enc] using hj
   have HOA : Hid (Own ((wz.alloc (.cells #[.string (t).bond, .int .i64 (t).src, .int .i64 (t).dst] 35)).drew) B 35 3 (.slice At nt ct) nt (((g.ties.take j).filter fun t => !touch node.id t).flatMap Tie.enc)) := HOz.out.below hal
   have HAL := Lib.hid hal
   have yA1 := block_cell HR.out.q 1
   clear hal
   go_region_law
    (first
      | (refine step_here rfl ?_
         refine wp_append_q _ (.tmp 148) (.tmp 154) 23 rfl B 35 t0 (.agg #[.string .empty, .int .i64 0, .int .i64 0]) 3 32 Tryz.underlying23 ti tz tz1 tz2 rfl (by decide) (.slice At nt ct) nt (((g.ties.take j).filter fun t => !touch node.id t).flatMap Tie.enc) rfl HOA.out (some ⟨wz.heap.size, 0, none⟩) 1 1 (Tie.enc (t)) rfl rfl (fun _ => ⟨_, rfl, fun j u hj => by rw [addr_add, Nat.zero_add]; exact HNW.out j u hj⟩) (Tie.enc_one _) (by unfold maxLen; omega) (by omega) HBZ.out ?_
         intro v7 w7 hown7 hg7 hat7
         have hr7 := HR.out.grown (by rw [<- hBe]; exact HOA.out) hw0 (by decide) hg7
         have f0 := block_free hr7.q 1
         have r0 := block_cell hr7.q 1
         obtain ⟨A7, c7, hv7, _, _⟩ := hown7.form
         subst hv7))
   all_goals
    have hon7 := (HONz.out.below HAL.out).same (Same.grown HOA.out (by decide) hg7)
    have HON8 := Lib.hid (hon7.same (hr7.same 1 (.slice A7 (nt + 1) c7) (T := 29) (by decide)))
    have HR2 := Lib.hid (hr7.setT (.slice A7 (nt + 1) c7))
    have hoa2 := hown7.same (hr7.same 1 (.slice A7 (nt + 1) c7) (T := 35) (by decide))
    clear f0 r0 hr7 hown7 hat7 HR HOA HNW
    have HOT8 : Hid (Own (w7.setCell ⟨w.heap.size + 1 + 1 + 1, 1, none⟩ (.slice A7 (nt + 1) c7)) B 35 3 (.slice A7 (nt + 1) c7) (nt + 1) (((g.ties.take (j + 1)).filter fun t => !touch node.id t).flatMap Tie.enc)) := by
     unfold Hid; rw [HN.out, <- flat_snoc]; exact hoa2
    clear hoa2 hon7 hg7 HAL HBZ x1 y1 yA1 u0 u1 u2
    go_wp2_with fail
    go_roundw
    case rel => exact ⟨j + 1, A7, nt + 1, c7, by omega, by go_num, HR2, HOT8, HON8, by omega⟩
    case measure => simp [intOf]; omega
  have hlt' : ¬ (j : Int) < (g.ties.length : Int) := by omega
  obtain rfl : j = g.ties.length := by omega
  rw [List.take_length] at HOT
  have HNT : Hid ((g.ties.filter fun t => !touch node.id t).length = nt) := by
   have h1 := HOT.out.1
   rw [flat_len Tie.enc_len] at h1
   unfold Hid; omega
  have HOKT : Hid (∀ x ∈ g.ties.filter fun t => !touch node.id t, x.ok) := fun x hx => by
   obtain ⟨i, hi⟩ := List.mem_iff_getElem?.1 (List.mem_filter.1 hx).1
   obtain ⟨_, _, _, hok, _⟩ := tie_at HGW.out.2 hi
   exact hok
  clear hlt o1 y0 y1
  go_upto_region 30 with fail
  clear x1
  have HR2 := HRr
  generalize wr = w8 at *
  have m2 := HR2.out.old G2.out (by omega)
  have a0 := block_free m2 0
  have a1 := block_free m2 1
  have a2 := block_cell m2 0
  have a3 := block_cell m2 1
  have y0 := block_cell HR2.out.q 0
  have y1 := block_cell HR2.out.q 1
  have s2 := setCell_block (setCell_block m2 0 (.slice An nn cn)) 1 (.slice At nt ct)
  have hbX := (HR2.out.b.setCell (p := ⟨w.heap.size + 1 + 1, 0, none⟩) (by show w.heap.size <= w.heap.size + 1 + 1; omega) (.slice An nn cn)).setCell (p := ⟨w.heap.size + 1 + 1, 1, none⟩) (by show w.heap.size <= w.heap.size + 1 + 1; omega) (.slice At nt ct)
  have HS2 := Lib.hid s2
  have HSM : Hid (∀ {T : TypeId}, 25 ≠ T -> Same T w8 ((w8.setCell ⟨w.heap.size + 1 + 1, 0, none⟩ (.slice An nn cn)).setCell ⟨w.heap.size + 1 + 1, 1, none⟩ (.slice At nt ct))) := fun hT => (Same.setCell (p := ⟨w.heap.size + 1 + 1, 0, none⟩) m2 hT (.slice An nn cn)).trans (Same.setCell (p := ⟨w.heap.size + 1 + 1, 1, none⟩) (setCell_block m2 0 (.slice An nn cn)) hT (.slice At nt ct))
  have HBX := Lib.hid hbX
  have HST : Hid (∀ W', Stay w0 ((w8.setCell ⟨w.heap.size + 1 + 1, 0, none⟩ (.slice An nn cn)).setCell ⟨w.heap.size + 1 + 1, 1, none⟩ (.slice At nt ct)) W' -> Stay w0 w W') := fun W' hW => hW.from HBX.out
  clear s2 m2 hbX
  go_wp2_with fail
  have k2' := block_cell HS2.out 0
  have k3' := block_cell HS2.out 1
  refine bodyPost_ret (v := .tuple #[.agg #[.slice An nn cn, .slice At nt ct], .int .i64 (0)]) (by simp [results, Tryz.results8, go_sem, k2', k3']) rfl
   ⟨_, _, by rw [HE.out.1], by rw [HE.out.2]; exact ⟨Own.slS (L := nodL) (by rw [show (g.nodes.take k ++ g.nodes.drop (k + 1)).length = nn by rw [List.length_append, List.length_take, List.length_drop, Nat.min_eq_left (by omega), HNN.out]]; exact HONr.out.same (HSM.out (by decide))) (by decide) (fun W' hW => ((HXS.out W' (HST.out W' hW)).take k (by omega)).append ((HXS.out W' (HST.out W' hW)).drop (k + 1) (by omega))), Own.slS (L := tieL) (by rw [HNT.out]; exact HOT.out.same (HSM.out (by decide))) (by decide) (fun W' _ => flat_row Tie.enc_len HOKT.out)⟩, HBX.out⟩
end Go.Proofs.YtngbbefpphinjaaGreatDoor
