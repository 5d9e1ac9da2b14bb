/- Parts: RdD, RdE, RdF. -/
import Derived.Test.YtngbbefpphinjaaGreatDoorMg21
import Derived.Test.YtngbbefpphinjaaGreatDoorMg23
import Derived.Test.YtngbbefpphinjaaGreatDoorMg22
/- Contract of the reference: kinref1.Do at an op that takes a tie away, and at one that makes one. -/
namespace Go.Proofs.YtngbbefpphinjaaGreatDoor
open Go Go.RowKit
theorem tie_eqlR (x y : Tie) (w : World) : (binOp .eql 35 (.agg #[.string x.bond, .int .i64 x.src, .int .i64 x.dst]) (.agg #[.string y.bond, .int .i64 y.src, .int .i64 y.dst])).run Tryz.prog w = .ok (.bool (decide (x = y))) w := by
 rw [run_eql_struct, show (10000 : Nat) = 9998 + 2 from rfl, tie_same]; rfl
theorem rdloose_parts (g : Grf) (node : Nod) (prop : Prp) (tie : Tie) (h : grfE g = 0) : (thas g.ties tie = false -> doE g ⟨6, node, prop, tie⟩ = 5 /\ doG g ⟨6, node, prop, tie⟩ = ⟨[], []⟩) /\
 (thas g.ties tie = true -> doE g ⟨6, node, prop, tie⟩ = 0 /\ doG g ⟨6, node, prop, tie⟩ = ⟨g.nodes, g.ties.take (tpos g.ties tie) ++ g.ties.drop (tpos g.ties tie + 1)⟩) := by
 obtain ⟨d1, d2, d3⟩ := doE_right h ⟨6, node, prop, tie⟩
 have e : opE g ⟨6, node, prop, tie⟩ = (if thas g.ties tie then 0 else 5) := by unfold opE; simp
 have eG : opG g ⟨6, node, prop, tie⟩ = ⟨g.nodes, g.ties.take (tpos g.ties tie) ++ g.ties.drop (tpos g.ties tie + 1)⟩ := by unfold opG; simp
 refine ⟨fun hf => ?_, fun hf => ?_⟩
 ·have h1 : opE g ⟨6, node, prop, tie⟩ = 5 := by rw [e, if_neg (by rw [hf]; simp)]
  exact ⟨by rw [d1, h1], d2 (by rw [h1]; omega)⟩
 have h1 : opE g ⟨6, node, prop, tie⟩ = 0 := by rw [e, if_pos hf]
 exact ⟨by rw [d1, h1], by rw [d3 h1, eG]⟩
theorem rdbind_parts (g : Grf) (node : Nod) (prop : Prp) (tie : Tie) (h : grfE g = 0) : (tieE tie ≠ 0 -> doE g ⟨5, node, prop, tie⟩ = tieE tie /\ doG g ⟨5, node, prop, tie⟩ = ⟨[], []⟩) /\ (tieE tie = 0 -> thas g.ties tie = true -> doE g ⟨5, node, prop, tie⟩ = 7 /\ doG g ⟨5, node, prop, tie⟩ = ⟨[], []⟩) /\
 (tieE tie = 0 -> thas g.ties tie = false -> 120 <= g.ties.length -> doE g ⟨5, node, prop, tie⟩ = 4 /\ doG g ⟨5, node, prop, tie⟩ = ⟨[], []⟩) /\
 (tieE tie = 0 -> thas g.ties tie = false -> ¬ 120 <= g.ties.length -> doE g ⟨5, node, prop, tie⟩ = 0 /\ doG g ⟨5, node, prop, tie⟩ = ⟨g.nodes, g.ties.take (tpos g.ties tie) ++ tie :: g.ties.drop (tpos g.ties tie)⟩) := by
 obtain ⟨d1, d2, d3⟩ := doE_right h ⟨5, node, prop, tie⟩
 have e : opE g ⟨5, node, prop, tie⟩ = (if tieE tie = 0 then (if thas g.ties tie then 7 else if 120 <= g.ties.length then 4 else 0) else tieE tie) := by unfold opE; simp
 have eG : opG g ⟨5, node, prop, tie⟩ = ⟨g.nodes, g.ties.take (tpos g.ties tie) ++ tie :: g.ties.drop (tpos g.ties tie)⟩ := by unfold opG; simp
 refine ⟨fun hn => ?_, fun hn hf => ?_, fun hn hf hl => ?_, fun hn hf hl => ?_⟩
 ·have h1 : opE g ⟨5, node, prop, tie⟩ = tieE tie := by rw [e, if_neg hn]
  exact ⟨by rw [d1, h1], d2 (by rw [h1]; exact hn)⟩
 ·have h1 : opE g ⟨5, node, prop, tie⟩ = 7 := by rw [e, if_pos hn, if_pos hf]
  exact ⟨by rw [d1, h1], d2 (by rw [h1]; omega)⟩
 ·have h1 : opE g ⟨5, node, prop, tie⟩ = 4 := by rw [e, if_pos hn, if_neg (by rw [hf]; simp), if_pos hl]
  exact ⟨by rw [d1, h1], d2 (by rw [h1]; omega)⟩
 have h1 : opE g ⟨5, node, prop, tie⟩ = 0 := by rw [e, if_pos hn, if_neg (by rw [hf]; simp), if_neg hl]
 exact ⟨by rw [d1, h1], by rw [d3 h1, eG]⟩
set_option maxRecDepth 100000 in
set_option maxHeartbeats 32000000 in
theorem rdo_loose (g : Grf) (node : Nod) (prop : Prp) (tie : Tie) (vn vt : Value) (Ar : Option Addr) (cr : Nat) (w0 w : World) (hbw0 : Below w0.heap.size w0 w) (hgs : GrfS w0 w vn vt g) (ho : OprR w0 (.slice Ar node.props.length cr) ⟨6, node, prop, tie⟩) (h0 : grfE g = 0) :
 Calls Tryz.prog 8 #[.agg #[vn, vt], .agg #[.int .i64 6, .int .i64 node.id, .string node.kind, .slice Ar node.props.length cr, .string prop.name, .int .i64 prop.v.ty, .int .i64 prop.v.n, .string prop.v.s, .string tie.bond, .int .i64 tie.src, .int .i64 tie.dst]] w (RetGI w0 (doG g ⟨6, node, prop, tie⟩) (doE g ⟨6, node, prop, tie⟩) w) := by
 have hg := hgs.r hbw0
 have HGS := Lib.hid hgs
 have HBW := Lib.hid hbw0
 have hobase := ho
 have ho := hobase.below hbw0
 have HOB := Lib.hid hobase
 clear hobase hgs hbw0
 obtain ⟨A1, c1, rfl, _, _⟩ := hg.1.form
 obtain ⟨A2, c2, rfl, _, _⟩ := hg.2.form
 obtain ⟨W0, hW0⟩ : ∃ W0, W0 = (((w.alloc (.cells #[.slice A1 g.nodes.length c1, .slice A2 g.ties.length c2] 25)).alloc (.cells #[.int .i64 6, .int .i64 node.id, .string node.kind, .slice Ar node.props.length cr, .string prop.name, .int .i64 prop.v.ty, .int .i64 prop.v.n, .string prop.v.s, .string tie.bond, .int .i64 tie.src, .int .i64 tie.dst] 37)).alloc (.cells #[.slice none 0 0, .slice none 0 0] 25)).alloc (.cells #[.slice none 0 0, .slice none 0 0] 25) := ⟨_, rfl⟩
 have hb0 : Below w.heap.size w W0 := by rw [hW0]; exact ((((Below.refl _ _).alloc (Nat.le_refl _) _).alloc (by simp only [World.size_alloc]; omega) _).alloc (by simp only [World.size_alloc]; omega) _).alloc (by simp only [World.size_alloc]; omega) _
 have g0 : W0.heap[w.heap.size]? = some (.cells #[.slice A1 g.nodes.length c1, .slice A2 g.ties.length c2] 25 (0, 0)) := by
  rw [hW0, Below.heap_alloc _ _ _ (by simp only [World.size_alloc]; omega), Below.heap_alloc _ _ _ (by simp only [World.size_alloc]; omega), Below.heap_alloc _ _ _ (by simp only [World.size_alloc]; omega)]; exact heap_alloc_new _ _
 have g1 : W0.heap[w.heap.size + 1]? = some (.cells #[.int .i64 6, .int .i64 node.id, .string node.kind, .slice Ar node.props.length cr, .string prop.name, .int .i64 prop.v.ty, .int .i64 prop.v.n, .string prop.v.s, .string tie.bond, .int .i64 tie.src, .int .i64 tie.dst] 37 (0, 0)) := by
  have := heap_alloc_new (w.alloc (.cells #[.slice A1 g.nodes.length c1, .slice A2 g.ties.length c2] 25)) (.cells #[.int .i64 6, .int .i64 node.id, .string node.kind, .slice Ar node.props.length cr, .string prop.name, .int .i64 prop.v.ty, .int .i64 prop.v.n, .string prop.v.s, .string tie.bond, .int .i64 tie.src, .int .i64 tie.dst] 37); rw [hW0, Below.heap_alloc _ _ _ (by simp only [World.size_alloc]; omega), Below.heap_alloc _ _ _ (by simp only [World.size_alloc]; omega)]; simpa using this
 have g2 : W0.heap[w.heap.size + 1 + 1]? = some (.cells #[.slice none 0 0, .slice none 0 0] 25 (0, 0)) := by
  have := heap_alloc_new ((w.alloc (.cells #[.slice A1 g.nodes.length c1, .slice A2 g.ties.length c2] 25)).alloc (.cells #[.int .i64 6, .int .i64 node.id, .string node.kind, .slice Ar node.props.length cr, .string prop.name, .int .i64 prop.v.ty, .int .i64 prop.v.n, .string prop.v.s, .string tie.bond, .int .i64 tie.src, .int .i64 tie.dst] 37)) (.cells #[.slice none 0 0, .slice none 0 0] 25); rw [hW0, Below.heap_alloc _ _ _ (by simp only [World.size_alloc]; omega)]; simpa using this
 have g3 : W0.heap[w.heap.size + 1 + 1 + 1]? = some (.cells #[.slice none 0 0, .slice none 0 0] 25 (0, 0)) := by
  have := heap_alloc_new (((w.alloc (.cells #[.slice A1 g.nodes.length c1, .slice A2 g.ties.length c2] 25)).alloc (.cells #[.int .i64 6, .int .i64 node.id, .string node.kind, .slice Ar node.props.length cr, .string prop.name, .int .i64 prop.v.ty, .int .i64 prop.v.n, .string prop.v.s, .string tie.bond, .int .i64 tie.src, .int .i64 tie.dst] 37)).alloc (.cells #[.slice none 0 0, .slice none 0 0] 25)) (.cells #[.slice none 0 0, .slice none 0 0] 25); rw [hW0]; simpa using this
 have hW0' := hW0.symm
 have hw0 := hb0.size
 obtain ⟨b1, b2⟩ := rdloose_parts g node prop tie h0
 have P1 := Lib.hid b1
 have P2 := Lib.hid b2
 obtain ⟨k1, k2, k3, k4⟩ := grf_ok h0
 have hx := rgfind_any g _ _ node.id W0 (hg.below hb0)
 rw [idx_nod k3] at hx
 have x0 := block_cell g0 0
 have x1 := block_cell g0 1
 have o0 := block_cell g1 0
 have o1 := block_cell g1 1
 have o2 := block_cell g1 2
 have o3 := block_cell g1 3
 have G0 := Lib.hid g0
 have G1 := Lib.hid g1
 have G2 := Lib.hid g2
 have G3 := Lib.hid g3
 have HGW := Lib.hid hg
 have HOW := Lib.hid ho
 have HG := Lib.hid (hg.below hb0)
 have HO := Lib.hid (ho.below hb0)
 have HFHL : Hid (fhas g.nodes node.id = true -> fpos g.nodes node.id < g.nodes.length) := fun h => by obtain ⟨n, hn⟩ := fhas_some' h; exact (List.getElem?_eq_some_iff.1 hn).1
 generalize hfz : (if fhas g.nodes node.id = true then (fpos g.nodes node.id : Int) else -1) = fz at *
 have HFZ := Lib.hid hfz
 clear hg ho g0 g1 g2 g3 hW0 hfz
 go_enter Tryz.func8, Tryz.ntmps8
 go_wp2_with fail
 clear hW0'
 refine hx.mono ?_
 clear hx
 rintro e w1 ⟨rfl, hb1⟩
 have hB1 := hb0.trans (hb1.mono hw0)
 have m0 := (hb1.block _ (geB G0.out)).trans G0.out
 have m1 := (hb1.block _ (geB G1.out)).trans G1.out
 have m2 := (hb1.block _ (geB G2.out)).trans G2.out
 have m3 := (hb1.block _ (geB G3.out)).trans G3.out
 have x0 := block_cell m0 0
 have x1 := block_cell m0 1
 have o0 := block_cell m1 0
 have o1 := block_cell m1 1
 clear m0
 generalize doE g ⟨6, node, prop, tie⟩ = de at *
 generalize doG g ⟨6, node, prop, tie⟩ = dg at *
 clear b1 b2 k3 k4
 obtain ⟨zt, hzt⟩ : ∃ zt : Int, zt = if thas g.ties tie = true then (tpos g.ties tie : Int) else -1 := ⟨_, rfl⟩
 have HZT : Hid (idxI (fun u => decide (u = tie)) g.ties = zt) := by unfold Hid; rw [hzt]; exact idx_tie (grf_work h0).2.1 tie
 have HZ := Lib.hid hzt
 have HND := Lib.hid (ties_nodup h0)
 have HCH := Lib.hid (grf_work h0).2.1
 have HK2 := Lib.hid k2
 have x0 := block_cell m1 8
 have o8 := block_cell m1 8
 have o9 := block_cell m1 9
 have o10 := block_cell m1 10
 have M1 := Lib.hid m1
 have M2 := Lib.hid m2
 have M3 := Lib.hid m3
 clear x0 hzt m1 m2 m3 k1 HFHL HFZ
 go_upto_block 5 with fail
 go_cut [16] (fun v wx => v = .int .i64 zt /\ Below w1.heap.size w1 wx)
 case first =>
  go_wp2_with fail
  go_loopw [16, 17] (fun a i wr => ∃ (k : Nat) (z : Int), k <= g.ties.length /\ i = .int .i64 k /\ a = .int .i64 z /\ Below w1.heap.size w1 wr /\ Hid ((z = -1 /\ ∀ j y, j < k -> g.ties[j]? = some y -> y ≠ tie) \/ ∃ m : Nat, m < k /\ z = m /\ g.ties[m]? = some tie)) (fun _ i _ => g.ties.length - (intOf i).toNat)
  case atStart => exact ⟨0, -1, Nat.zero_le _, rfl, rfl, Below.refl _ _, .inl ⟨rfl, fun j y hj => absurd hj (Nat.not_lt_zero _)⟩⟩
  obtain ⟨k, z, hk, rfl, rfl, hbr, HA⟩ := hrel
  have x1 := cell_below hbr x1
  have o8 := cell_below hbr o8
  have o9 := cell_below hbr o9
  have o10 := cell_below hbr o10
  by_cases hkl : k < g.ties.length
  ·obtain ⟨t, ht⟩ : ∃ d, g.ties[k]? = some d := ⟨_, List.getElem?_eq_getElem hkl⟩
   have hkl' : (k : Int) < (g.ties.length : Int) := by omega
   obtain ⟨gb, oo, hA, htok, u0, u1, u2⟩ := tie_at (HGW.out.2.below (hB1.trans (hbr.mono hB1.size))) ht
   subst hA
   have heq := tie_eqlR t tie
   have hgd := tie_guard
   have HYES : Hid (decide (t = tie) = true -> g.ties[k]? = some tie) := fun h => by rw [ht, of_decide_eq_true h]
   have HNO : Hid (decide (t = tie) = false -> ∀ y, g.ties[k]? = some y -> y ≠ tie) := fun h y hy => by
    rw [ht] at hy; cases hy; exact of_decide_eq_false h
   generalize decide (t = tie) = q at *
   clear ht htok
   cases q with
   | true =>
    have HK := Lib.hid (HYES.out rfl)
    clear HYES HNO
    go_wp2_with fail
    go_quiet (fail)
    go_wp2_with fail
    go_roundw
    case rel => exact ⟨k + 1, k, by omega, by go_num, rfl, below_drewN hbr _, .inr ⟨k, Nat.lt_succ_self _, rfl, HK.out⟩⟩
    case measure => simp [intOf]; omega
   | false =>
    have HK := Lib.hid (HNO.out rfl)
    clear HYES HNO
    go_wp2_with fail
    go_quiet (fail)
    go_wp2_with fail
    go_roundw
    case rel =>
     refine ⟨k + 1, z, by omega, by go_num, rfl, below_drewN hbr _, ?_⟩
     rcases HA.out with ⟨h1, h2⟩ | ⟨m, h1, h2, h3⟩
     ·refine .inl ⟨h1, fun j y hj hy => ?_⟩
      rcases Nat.lt_succ_iff_lt_or_eq.1 hj with h | rfl
      ·exact h2 j y h hy
      exact HK.out y hy
     exact .inr ⟨m, by omega, h2, h3⟩
    case measure => simp [intOf]; omega
  obtain rfl : k = g.ties.length := by omega
  have HZE : Hid (z = zt) := by
   unfold Hid
   rw [<- HZT.out]
   rcases HA.out with ⟨h1, h2⟩ | ⟨m, h1, h2, h3⟩
   ·rw [h1]; exact (idxI_miss fun j x hj hx => decide_eq_false (h2 j x hj hx)).symm
   rw [h2]
   refine (idxI_hit (p := fun u => decide (u = tie)) (fun j x hj hx => decide_eq_false fun e => ?_) h3 (decide_eq_true rfl)).symm
   rw [e] at hx
   have h4 := (List.getElem?_inj (by omega) HND.out).1 (hx.trans h3.symm)
   omega
  have hkl' : ¬ (g.ties.length : Int) < (g.ties.length : Int) := by omega
  clear HA
  go_wp2_with fail
  go_meet
  exact ⟨by rw [HZE.out], hbr⟩
 case rest =>
 obtain ⟨rfl, hb12⟩ := hcut
 obtain ⟨w2, rfl⟩ : ∃ x : World, x = wc := ⟨_, rfl⟩
 have hbw2 := hB1.trans (hb12.mono hB1.size)
 have hr2 : RdS w W0 (w.heap.size + 1 + 1 + 1) w2 (.slice none 0 0) (.slice none 0 0) := ⟨(Kp.refl _ _).below (hb1.trans (hb12.mono hb1.size)), hbw2, (hb12.block _ (geB M3.out)).trans M3.out, by omega⟩
 have HR2 := Lib.hid hr2
 clear hr2 hbw2 hb12 hB1 hb1 M1 M2 M3 HZT HND x1 o8 o9 o10 o0 o1
 have q0 := HR2.out.old G0.out (by omega)
 have q1 := HR2.out.old G1.out (by omega)
 have x0 := block_cell q0 0
 have x1 := block_cell q0 1
 have o0 := block_cell q1 0
 have y0 := block_cell HR2.out.q 0
 have f0 := block_free HR2.out.q 0
 clear q0 q1
 go_upto_region 59 with fail
 have HR3 := Lib.hid (HR2.out.setN (.slice A1 g.nodes.length c1))
 generalize w2.setCell ⟨w.heap.size + 1 + 1 + 1, 0, none⟩ (.slice A1 g.nodes.length c1) = w3 at *
 clear x0 x1 o0 y0 f0 HR2
 have q0 := HR3.out.old G0.out (by omega)
 have q1 := HR3.out.old G1.out (by omega)
 have x1 := block_cell q0 1
 have o0 := block_cell q1 0
 have y1 := block_cell HR3.out.q 1
 have f1 := block_free HR3.out.q 1
 clear q0 q1
 cases hf : thas g.ties tie with
 | false =>
  have HE := Lib.hid (P1.out hf)
  have hz : zt = -1 := by rw [HZ.out, hf]; rfl
  subst hz
  have m2 := HR3.out.old G2.out (by omega)
  have m3 := HR3.out.q
  have hB2 := HR3.out.b
  clear hf HZ P1 P2 f1 y1 x1
  have a0 := block_free m2 0
  have a1 := block_free m2 1
  have a2 := block_cell m2 0
  have a3 := block_cell m2 1
  have y0 := block_cell m3 0
  have y1 := block_cell m3 1
  have s2 := setCell_block (setCell_block m2 0 (.slice none 0 0)) 1 (.slice none 0 0)
  have hbX := (hB2.setCell (p := ⟨w.heap.size + 1 + 1, 0, none⟩) (by show w.heap.size <= w.heap.size + 1 + 1; omega) (.slice none 0 0)).setCell (p := ⟨w.heap.size + 1 + 1, 1, none⟩) (by show w.heap.size <= w.heap.size + 1 + 1; omega) (.slice none 0 0)
  have HS2 := Lib.hid s2
  clear s2 m2 m3
  go_wp2_with fail
  have k2' := block_cell HS2.out 0
  have k3' := block_cell HS2.out 1
  exact bodyPost_ret (v := .tuple #[.agg #[.slice none 0 0, .slice none 0 0], .int .i64 (5)]) (by simp [results, Tryz.results8, go_sem, k2', k3']) rfl
   ⟨_, _, by rw [HE.out.1], by rw [HE.out.2]; exact ⟨SlS.nil _ _, SlS.nil _ _⟩, hbX⟩
 | true =>
  have HE := Lib.hid (P2.out hf)
  have hz : zt = (tpos g.ties tie : Int) := by rw [HZ.out, hf]; rfl
  subst hz
  have hkl : tpos g.ties tie < g.ties.length := by
   obtain ⟨_, h⟩ := thas_some hf
   exact (List.getElem?_eq_some_iff.1 h).1
  obtain ⟨Arow, crow, xs, hvrow, _, _, hxall⟩ := HGS.out.2
  cases hvrow
  have hxs0 := hxall w (Stay.refl HBW.out)
  have HXR := Lib.hid hxs0.1
  have HXC := Lib.hid hxs0.2
  have HXS : Hid (∀ W', Stay w0 w W' -> Row tieL W' _ xs) := fun W' hW => (hxall W' hW).1
  clear hxs0 hxall
  obtain ⟨n0, ni, nz, nz1, nz2⟩ := info_parts tieT_info
  obtain ⟨B, hBe⟩ : ∃ B, B = W0.heap.size := ⟨_, rfl⟩
  clear hf HZ P1 P2
  generalize tpos g.ties tie = k at *
  have hk0 : ¬ (k : Int) < 0 := by omega
  have hk1 : (0 : Int) <= (k : Int) := by omega
  have hkc : (k : Int) <= (c2 : Int) := by omega
  have hkc2 : (k : Int) <= (g.ties.length : Int) := by omega
  go_upto_region 62 with fail
  clear o0 f1
  have hsl := cut_headT A2 c2 g.ties.length k (by omega)
  have hxl : xs.length = g.ties.length * 3 := HXR.out.len
  have HN1 : Hid ((xs.take (k * 3)).length = k * 3) := by unfold Hid; rw [List.length_take, hxl]; omega
  have HN3 : Hid ((xs.drop ((k + 1) * 3)).length = (g.ties.length - (k + 1)) * 3) := by unfold Hid; rw [List.length_drop, hxl]; omega
  have HONE : Hid (∀ u ∈ xs, u.oneCell' = true) := HXR.out.oneCell one_tie
  go_wp2_with fail
  refine wp_quiet_tail 6 (by kernel_rfl) (by kernel_rfl) ?_
  simp only [List.take_succ_cons, List.take_zero, List.drop_succ_cons, List.drop_zero]
  repeat (go_big_quiet_step (fail))
  refine wpQuiet_nil ?_
  intro _ hw'
  obtain ⟨nq3, hw''⟩ := hw'
  subst hw''
  clear hsl
  have hbz := below_drewN (Below.refl w3.heap.size w3) nq3
  have HR := Lib.hid (HR3.out.below hbz)
  generalize w3.drewN nq3 = wz at *
  have HNW : Hid (0 < k -> ∃ a, A2 = some a /\ ∀ j u, (xs.take (k * 3))[j]? = some u -> wz.cell? (a.add j) = some u) := fun h => by
   obtain ⟨a, h1, h2⟩ := head_cells HXC.out (by omega) h
   exact ⟨a, h1, fun j u hj => cell_below HR.out.b (h2 j u hj)⟩
  have HOA : Hid (Own wz B 35 3 (.slice none 0 0) 0 []) := Own.nil _ _ _ _
  have hBz : B <= wz.heap.size := by rw [hBe]; exact HR.out.k.s
  clear y1 x1 hbz
  go_upto_region 63 with (first
   | (at_builtin; refine wpList_append_q _ rfl (.tmp 242) (.tmp 246) _ rfl B 35 n0 (.agg #[.string .empty, .int .i64 0, .int .i64 0]) 3 32 Tryz.underlying23 ni nz nz1 nz2 rfl (by decide) (.slice none 0 0) 0 [] rfl HOA.out A2 k c2 (xs.take (k * 3)) rfl HN1.out HNW.out (fun u hu => HONE.out u (List.mem_of_mem_take hu)) (by unfold maxLen; omega) (by omega) hBz ?_; intro v7 w7 hown7 hg7 hat7
      have hr7 := HR.out.grown (by rw [<- hBe]; exact HOA.out) hw0 (by decide) hg7
      have f0 := block_free hr7.q 1
      have r0 := block_cell hr7.q 1
      obtain ⟨A7, c7, hv7, _, _⟩ := hown7.form
      subst hv7))
  have HR2 := Lib.hid (hr7.setT (.slice A7 (k) c7))
  have hoa2 := hown7.same (hr7.same 1 (.slice A7 (k) c7) (T := 35) (by decide))
  clear f0 r0 hr7 hown7 hg7 hat7 HR HOA HNW
  generalize w7.setCell ⟨w.heap.size + 1 + 1 + 1, 1, none⟩ (.slice A7 (k) c7) = w8 at *
  have HB8 : Hid (B <= w8.heap.size) := by unfold Hid; rw [hBe]; exact HR2.out.k.s
  rw [Nat.zero_add, List.nil_append] at hoa2
  have q0 := HR2.out.old G0.out (by omega)
  have x1 := block_cell q0 1
  have y1 := block_cell HR2.out.q 1
  have hkn : (k : Int) + 1 <= (g.ties.length : Int) := by omega
  have hkn0 : (0 : Int) <= (k : Int) + 1 := by omega
  have hsl := cut_tailT A2 c2 g.ties.length (k + 1) (by omega)
  have HTC := Lib.hid (tail_cells HXC.out (by omega : g.ties.length <= c2) (by omega : k + 1 <= g.ties.length))
  obtain ⟨At, hAt⟩ : ∃ At, At = (if c2 = k + 1 then A2 else A2.map (fun a => a.add ((k + 1) * 3))) := ⟨_, rfl⟩
  rw [<- hAt] at hsl HTC
  rw [Int.natCast_succ] at hsl
  clear hAt q0
  go_wp2_with fail
  refine wp_quiet_tail 7 (by kernel_rfl) (by kernel_rfl) ?_
  simp only [List.take_succ_cons, List.take_zero, List.drop_succ_cons, List.drop_zero]
  repeat (go_big_quiet_step (fail))
  refine wpQuiet_nil ?_
  intro _ hw'
  obtain ⟨nq3, hw''⟩ := hw'
  subst hw''
  clear hsl
  have hbz := below_drewN (Below.refl w8.heap.size w8) nq3
  have HR := Lib.hid (HR2.out.below hbz)
  have HOA := Lib.hid (hoa2.below hbz)
  have HBZ : Hid (B <= (w8.drewN nq3).heap.size) := Nat.le_trans HB8.out hbz.size
  clear hbz hoa2 HB8 HR2
  generalize w8.drewN nq3 = wz at *
  have HNW : Hid (0 < g.ties.length - (k + 1) -> ∃ a, At = some a /\ ∀ j u, (xs.drop ((k + 1) * 3))[j]? = some u -> wz.cell? (a.add j) = some u) := fun h => by
   obtain ⟨a, h1, h2⟩ := HTC.out h
   exact ⟨a, h1, fun j u hj => cell_below HR.out.b (h2 j u hj)⟩
  go_upto_region 64 with (first
   | (at_builtin; refine wpList_append_q _ rfl (.tmp 250) (.tmp 255) _ rfl B 35 n0 (.agg #[.string .empty, .int .i64 0, .int .i64 0]) 3 32 Tryz.underlying23 ni nz nz1 nz2 rfl (by decide) (.slice A7 k c7) k (xs.take (k * 3)) rfl HOA.out At (g.ties.length - (k + 1)) (c2 - (k + 1)) (xs.drop ((k + 1) * 3)) rfl HN3.out HNW.out (fun u hu => HONE.out u (List.mem_of_mem_drop hu)) (by unfold maxLen; omega) (by omega) HBZ.out ?_; intro v7 w7 hown7 hg7 hat7
      have hr7 := HR.out.grown (by rw [<- hBe]; exact HOA.out) hw0 (by decide) hg7
      have f0 := block_free hr7.q 1
      have r0 := block_cell hr7.q 1
      obtain ⟨A7, c7, hv7, _, _⟩ := hown7.form
      subst hv7))
  have HR2 := Lib.hid (hr7.setT (.slice A7 (k + (g.ties.length - (k + 1))) c7))
  have hoa2 := hown7.same (hr7.same 1 (.slice A7 (k + (g.ties.length - (k + 1))) c7) (T := 35) (by decide))
  clear f0 r0 hr7 hown7 hg7 hat7 HR HOA HNW
  generalize w7.setCell ⟨w.heap.size + 1 + 1 + 1, 1, none⟩ (.slice A7 (k + (g.ties.length - (k + 1))) c7) = w8 at *
  have HB8 : Hid (B <= w8.heap.size) := by unfold Hid; rw [hBe]; exact HR2.out.k.s
  have HON := Lib.hid hoa2
  clear hoa2 HTC HN1 HN3 HONE
  have m2 := HR2.out.old G2.out (by omega)
  have a0 := block_free m2 0
  have a1 := block_free m2 1
  have a2 := block_cell m2 0
  have a3 := block_cell m2 1
  have y0 := block_cell HR2.out.q 0
  have y1 := block_cell HR2.out.q 1
  have s2 := setCell_block (setCell_block m2 0 (.slice A1 g.nodes.length c1)) 1 (.slice A7 (k + (g.ties.length - (k + 1))) c7)
  have hbX := (HR2.out.b.setCell (p := ⟨w.heap.size + 1 + 1, 0, none⟩) (by show w.heap.size <= w.heap.size + 1 + 1; omega) (.slice A1 g.nodes.length c1)).setCell (p := ⟨w.heap.size + 1 + 1, 1, none⟩) (by show w.heap.size <= w.heap.size + 1 + 1; omega) (.slice A7 (k + (g.ties.length - (k + 1))) c7)
  have HS2 := Lib.hid s2
  have HSM : Hid (∀ {T : TypeId}, 25 ≠ T -> Same T w8 ((w8.setCell ⟨w.heap.size + 1 + 1, 0, none⟩ (.slice A1 g.nodes.length c1)).setCell ⟨w.heap.size + 1 + 1, 1, none⟩ (.slice A7 (k + (g.ties.length - (k + 1))) c7))) := fun hT => (Same.setCell (p := ⟨w.heap.size + 1 + 1, 0, none⟩) m2 hT (.slice A1 g.nodes.length c1)).trans (Same.setCell (p := ⟨w.heap.size + 1 + 1, 1, none⟩) (setCell_block m2 0 (.slice A1 g.nodes.length c1)) hT (.slice A7 (k + (g.ties.length - (k + 1))) c7))
  have HBX := Lib.hid hbX
  have HST : Hid (∀ W', Stay w0 ((w8.setCell ⟨w.heap.size + 1 + 1, 0, none⟩ (.slice A1 g.nodes.length c1)).setCell ⟨w.heap.size + 1 + 1, 1, none⟩ (.slice A7 (k + (g.ties.length - (k + 1))) c7)) W' -> Stay w0 w W') := fun W' hW => hW.from HBX.out
  clear s2 m2 hbX
  go_wp2_with fail
  have k2' := block_cell HS2.out 0
  have k3' := block_cell HS2.out 1
  refine bodyPost_ret (v := .tuple #[.agg #[.slice A1 g.nodes.length c1, .slice A7 (k + (g.ties.length - (k + 1))) c7], .int .i64 (0)]) (by simp [results, Tryz.results8, go_sem, k2', k3']) rfl
   ⟨_, _, by rw [HE.out.1], by rw [HE.out.2]; exact ⟨HGS.out.1.stay HST.out, Own.slS (L := tieL) (by rw [show (g.ties.take k ++ g.ties.drop (k + 1)).length = k + (g.ties.length - (k + 1)) by rw [List.length_append, List.length_take, List.length_drop, Nat.min_eq_left (by omega)]]; exact HON.out.same (HSM.out (by decide))) (by decide) (fun W' hW => ((HXS.out W' (HST.out W' hW)).take k (by omega)).append ((HXS.out W' (HST.out W' hW)).drop (k + 1) (by omega)))⟩, HBX.out⟩
set_option maxRecDepth 100000 in
set_option maxHeartbeats 32000000 in
theorem rdo_bind (g : Grf) (node : Nod) (prop : Prp) (tie : Tie) (vn vt : Value) (Ar : Option Addr) (cr : Nat) (w0 w : World) (hbw0 : Below w0.heap.size w0 w) (hgs : GrfS w0 w vn vt g) (ho : OprR w0 (.slice Ar node.props.length cr) ⟨5, node, prop, tie⟩) (h0 : grfE g = 0) :
 Calls Tryz.prog 8 #[.agg #[vn, vt], .agg #[.int .i64 5, .int .i64 node.id, .string node.kind, .slice Ar node.props.length cr, .string prop.name, .int .i64 prop.v.ty, .int .i64 prop.v.n, .string prop.v.s, .string tie.bond, .int .i64 tie.src, .int .i64 tie.dst]] w (RetGI w0 (doG g ⟨5, node, prop, tie⟩) (doE g ⟨5, node, prop, tie⟩) w) := by
 have hg := hgs.r hbw0
 have HGS := Lib.hid hgs
 have HBW := Lib.hid hbw0
 have hobase := ho
 have ho := hobase.below hbw0
 have HOB := Lib.hid hobase
 clear hobase hgs hbw0
 obtain ⟨A1, c1, rfl, _, _⟩ := hg.1.form
 obtain ⟨A2, c2, rfl, _, _⟩ := hg.2.form
 obtain ⟨W0, hW0⟩ : ∃ W0, W0 = (((w.alloc (.cells #[.slice A1 g.nodes.length c1, .slice A2 g.ties.length c2] 25)).alloc (.cells #[.int .i64 5, .int .i64 node.id, .string node.kind, .slice Ar node.props.length cr, .string prop.name, .int .i64 prop.v.ty, .int .i64 prop.v.n, .string prop.v.s, .string tie.bond, .int .i64 tie.src, .int .i64 tie.dst] 37)).alloc (.cells #[.slice none 0 0, .slice none 0 0] 25)).alloc (.cells #[.slice none 0 0, .slice none 0 0] 25) := ⟨_, rfl⟩
 have hb0 : Below w.heap.size w W0 := by rw [hW0]; exact ((((Below.refl _ _).alloc (Nat.le_refl _) _).alloc (by simp only [World.size_alloc]; omega) _).alloc (by simp only [World.size_alloc]; omega) _).alloc (by simp only [World.size_alloc]; omega) _
 have g0 : W0.heap[w.heap.size]? = some (.cells #[.slice A1 g.nodes.length c1, .slice A2 g.ties.length c2] 25 (0, 0)) := by
  rw [hW0, Below.heap_alloc _ _ _ (by simp only [World.size_alloc]; omega), Below.heap_alloc _ _ _ (by simp only [World.size_alloc]; omega), Below.heap_alloc _ _ _ (by simp only [World.size_alloc]; omega)]; exact heap_alloc_new _ _
 have g1 : W0.heap[w.heap.size + 1]? = some (.cells #[.int .i64 5, .int .i64 node.id, .string node.kind, .slice Ar node.props.length cr, .string prop.name, .int .i64 prop.v.ty, .int .i64 prop.v.n, .string prop.v.s, .string tie.bond, .int .i64 tie.src, .int .i64 tie.dst] 37 (0, 0)) := by
  have := heap_alloc_new (w.alloc (.cells #[.slice A1 g.nodes.length c1, .slice A2 g.ties.length c2] 25)) (.cells #[.int .i64 5, .int .i64 node.id, .string node.kind, .slice Ar node.props.length cr, .string prop.name, .int .i64 prop.v.ty, .int .i64 prop.v.n, .string prop.v.s, .string tie.bond, .int .i64 tie.src, .int .i64 tie.dst] 37); rw [hW0, Below.heap_alloc _ _ _ (by simp only [World.size_alloc]; omega), Below.heap_alloc _ _ _ (by simp only [World.size_alloc]; omega)]; simpa using this
 have g2 : W0.heap[w.heap.size + 1 + 1]? = some (.cells #[.slice none 0 0, .slice none 0 0] 25 (0, 0)) := by
  have := heap_alloc_new ((w.alloc (.cells #[.slice A1 g.nodes.length c1, .slice A2 g.ties.length c2] 25)).alloc (.cells #[.int .i64 5, .int .i64 node.id, .string node.kind, .slice Ar node.props.length cr, .string prop.name, .int .i64 prop.v.ty, .int .i64 prop.v.n, .string prop.v.s, .string tie.bond, .int .i64 tie.src, .int .i64 tie.dst] 37)) (.cells #[.slice none 0 0, .slice none 0 0] 25); rw [hW0, Below.heap_alloc _ _ _ (by simp only [World.size_alloc]; omega)]; simpa using this
 have g3 : W0.heap[w.heap.size + 1 + 1 + 1]? = some (.cells #[.slice none 0 0, .slice none 0 0] 25 (0, 0)) := by
  have := heap_alloc_new (((w.alloc (.cells #[.slice A1 g.nodes.length c1, .slice A2 g.ties.length c2] 25)).alloc (.cells #[.int .i64 5, .int .i64 node.id, .string node.kind, .slice Ar node.props.length cr, .string prop.name, .int .i64 prop.v.ty, .int .i64 prop.v.n, .string prop.v.s, .string tie.bond, .int .i64 tie.src, .int .i64 tie.dst] 37)).alloc (.cells #[.slice none 0 0, .slice none 0 0] 25)) (.cells #[.slice none 0 0, .slice none 0 0] 25); rw [hW0]; simpa using this
 have hW0' := hW0.symm
 have hw0 := hb0.size
 obtain ⟨b1, b2, b3, b4⟩ := rdbind_parts g node prop tie h0
 have P1 := Lib.hid b1
 have P2 := Lib.hid b2
 have P3 := Lib.hid b3
 have P4 := Lib.hid b4
 obtain ⟨k1, k2, k3, k4⟩ := grf_ok h0
 have hx := rgfind_any g _ _ node.id W0 (hg.below hb0)
 rw [idx_nod k3] at hx
 have x0 := block_cell g0 0
 have x1 := block_cell g0 1
 have o0 := block_cell g1 0
 have o1 := block_cell g1 1
 have o2 := block_cell g1 2
 have o3 := block_cell g1 3
 have G0 := Lib.hid g0
 have G1 := Lib.hid g1
 have G2 := Lib.hid g2
 have G3 := Lib.hid g3
 have HGW := Lib.hid hg
 have HOW := Lib.hid ho
 have HG := Lib.hid (hg.below hb0)
 have HO := Lib.hid (ho.below hb0)
 have HFHL : Hid (fhas g.nodes node.id = true -> fpos g.nodes node.id < g.nodes.length) := fun h => by obtain ⟨n, hn⟩ := fhas_some' h; exact (List.getElem?_eq_some_iff.1 hn).1
 generalize hfz : (if fhas g.nodes node.id = true then (fpos g.nodes node.id : Int) else -1) = fz at *
 have HFZ := Lib.hid hfz
 clear hg ho g0 g1 g2 g3 hW0 hfz
 go_enter Tryz.func8, Tryz.ntmps8
 go_wp2_with fail
 clear hW0'
 refine hx.mono ?_
 clear hx
 rintro e w1 ⟨rfl, hb1⟩
 have hB1 := hb0.trans (hb1.mono hw0)
 have m0 := (hb1.block _ (geB G0.out)).trans G0.out
 have m1 := (hb1.block _ (geB G1.out)).trans G1.out
 have m2 := (hb1.block _ (geB G2.out)).trans G2.out
 have m3 := (hb1.block _ (geB G3.out)).trans G3.out
 have x0 := block_cell m0 0
 have x1 := block_cell m0 1
 have o0 := block_cell m1 0
 have o1 := block_cell m1 1
 clear m0
 generalize doE g ⟨5, node, prop, tie⟩ = de at *
 generalize doG g ⟨5, node, prop, tie⟩ = dg at *
 clear b1 b2 b3 b4 k3 k4
 obtain ⟨zt, hzt⟩ : ∃ zt : Int, zt = if thas g.ties tie = true then (tpos g.ties tie : Int) else -1 := ⟨_, rfl⟩
 have HZT : Hid (idxI (fun u => decide (u = tie)) g.ties = zt) := by unfold Hid; rw [hzt]; exact idx_tie (grf_work h0).2.1 tie
 have HZ := Lib.hid hzt
 have HND := Lib.hid (ties_nodup h0)
 have HCH := Lib.hid (grf_work h0).2.1
 have HK2 := Lib.hid k2
 have x0 := block_cell m1 8
 have o8 := block_cell m1 8
 have o9 := block_cell m1 9
 have o10 := block_cell m1 10
 have M1 := Lib.hid m1
 have M2 := Lib.hid m2
 have M3 := Lib.hid m3
 clear x0 hzt m1 m2 m3 k1 HFHL HFZ
 go_upto_block 5 with fail
 go_cut [16] (fun v wx => v = .int .i64 zt /\ Below w1.heap.size w1 wx)
 case first =>
  go_wp2_with fail
  go_loopw [16, 17] (fun a i wr => ∃ (k : Nat) (z : Int), k <= g.ties.length /\ i = .int .i64 k /\ a = .int .i64 z /\ Below w1.heap.size w1 wr /\ Hid ((z = -1 /\ ∀ j y, j < k -> g.ties[j]? = some y -> y ≠ tie) \/ ∃ m : Nat, m < k /\ z = m /\ g.ties[m]? = some tie)) (fun _ i _ => g.ties.length - (intOf i).toNat)
  case atStart => exact ⟨0, -1, Nat.zero_le _, rfl, rfl, Below.refl _ _, .inl ⟨rfl, fun j y hj => absurd hj (Nat.not_lt_zero _)⟩⟩
  obtain ⟨k, z, hk, rfl, rfl, hbr, HA⟩ := hrel
  have x1 := cell_below hbr x1
  have o8 := cell_below hbr o8
  have o9 := cell_below hbr o9
  have o10 := cell_below hbr o10
  by_cases hkl : k < g.ties.length
  ·obtain ⟨t, ht⟩ : ∃ d, g.ties[k]? = some d := ⟨_, List.getElem?_eq_getElem hkl⟩
   have hkl' : (k : Int) < (g.ties.length : Int) := by omega
   obtain ⟨gb, oo, hA, htok, u0, u1, u2⟩ := tie_at (HGW.out.2.below (hB1.trans (hbr.mono hB1.size))) ht
   subst hA
   have heq := tie_eqlR t tie
   have hgd := tie_guard
   have HYES : Hid (decide (t = tie) = true -> g.ties[k]? = some tie) := fun h => by rw [ht, of_decide_eq_true h]
   have HNO : Hid (decide (t = tie) = false -> ∀ y, g.ties[k]? = some y -> y ≠ tie) := fun h y hy => by
    rw [ht] at hy; cases hy; exact of_decide_eq_false h
   generalize decide (t = tie) = q at *
   clear ht htok
   cases q with
   | true =>
    have HK := Lib.hid (HYES.out rfl)
    clear HYES HNO
    go_wp2_with fail
    go_quiet (fail)
    go_wp2_with fail
    go_roundw
    case rel => exact ⟨k + 1, k, by omega, by go_num, rfl, below_drewN hbr _, .inr ⟨k, Nat.lt_succ_self _, rfl, HK.out⟩⟩
    case measure => simp [intOf]; omega
   | false =>
    have HK := Lib.hid (HNO.out rfl)
    clear HYES HNO
    go_wp2_with fail
    go_quiet (fail)
    go_wp2_with fail
    go_roundw
    case rel =>
     refine ⟨k + 1, z, by omega, by go_num, rfl, below_drewN hbr _, ?_⟩
     rcases HA.out with ⟨h1, h2⟩ | ⟨m, h1, h2, h3⟩
     ·refine .inl ⟨h1, fun j y hj hy => ?_⟩
      rcases Nat.lt_succ_iff_lt_or_eq.1 hj with h | rfl
      ·exact h2 j y h hy
      exact HK.out y hy
     exact .inr ⟨m, by omega, h2, h3⟩
    case measure => simp [intOf]; omega
  obtain rfl : k = g.ties.length := by omega
  have HZE : Hid (z = zt) := by
   unfold Hid
   rw [<- HZT.out]
   rcases HA.out with ⟨h1, h2⟩ | ⟨m, h1, h2, h3⟩
   ·rw [h1]; exact (idxI_miss fun j x hj hx => decide_eq_false (h2 j x hj hx)).symm
   rw [h2]
   refine (idxI_hit (p := fun u => decide (u = tie)) (fun j x hj hx => decide_eq_false fun e => ?_) h3 (decide_eq_true rfl)).symm
   rw [e] at hx
   have h4 := (List.getElem?_inj (by omega) HND.out).1 (hx.trans h3.symm)
   omega
  have hkl' : ¬ (g.ties.length : Int) < (g.ties.length : Int) := by omega
  clear HA
  go_wp2_with fail
  go_meet
  exact ⟨by rw [HZE.out], hbr⟩
 case rest =>
 obtain ⟨rfl, hb12⟩ := hcut
 obtain ⟨w2, rfl⟩ : ∃ x : World, x = wc := ⟨_, rfl⟩
 have hbw2 := hB1.trans (hb12.mono hB1.size)
 have hr2 : RdS w W0 (w.heap.size + 1 + 1 + 1) w2 (.slice none 0 0) (.slice none 0 0) := ⟨(Kp.refl _ _).below (hb1.trans (hb12.mono hb1.size)), hbw2, (hb12.block _ (geB M3.out)).trans M3.out, by omega⟩
 have HR2 := Lib.hid hr2
 clear hr2 hbw2 hb12 hB1 hb1 M1 M2 M3 HZT HND x1 o8 o9 o10 o0 o1
 have q0 := HR2.out.old G0.out (by omega)
 have q1 := HR2.out.old G1.out (by omega)
 have x0 := block_cell q0 0
 have x1 := block_cell q0 1
 have o0 := block_cell q1 0
 have y0 := block_cell HR2.out.q 0
 have f0 := block_free HR2.out.q 0
 clear q0 q1
 go_upto_region 59 with fail
 have HR3 := Lib.hid (HR2.out.setN (.slice A1 g.nodes.length c1))
 generalize w2.setCell ⟨w.heap.size + 1 + 1 + 1, 0, none⟩ (.slice A1 g.nodes.length c1) = w3 at *
 clear x0 x1 o0 y0 f0 HR2
 have q1 := HR3.out.old G1.out (by omega)
 have o0 := block_cell q1 0
 have o8 := block_cell q1 8
 have o9 := block_cell q1 9
 have o10 := block_cell q1 10
 have hx := rtie_any tie w3 HO.out.t.1
 clear q1
 go_wp2_with fail
 refine hx.mono ?_
 clear hx o0 o8 o9 o10
 rintro e w4 ⟨rfl, hb4⟩
 have HR4 := Lib.hid (HR3.out.below hb4)
 clear HR3 hb4
 have q0 := HR4.out.old G0.out (by omega)
 have q1 := HR4.out.old G1.out (by omega)
 have x1 := block_cell q0 1
 have o8 := block_cell q1 8
 have o9 := block_cell q1 9
 have o10 := block_cell q1 10
 have m2 := HR4.out.old G2.out (by omega)
 have m3 := HR4.out.q
 have hB2 := HR4.out.b
 clear q0 q1
 by_cases hn : tieE tie = 0
 case neg =>
  have hnb : (tieE tie == 0) = false := by simpa using hn
  have hnb2 : (tieE tie != 0) = true := by simpa using hn
  have HE := Lib.hid (P1.out hn)
  clear hn P1 P2 P3 P4 o8 o9 o10
  have a0 := block_free m2 0
  have a1 := block_free m2 1
  have a2 := block_cell m2 0
  have a3 := block_cell m2 1
  have y0 := block_cell m3 0
  have y1 := block_cell m3 1
  have s2 := setCell_block (setCell_block m2 0 (.slice none 0 0)) 1 (.slice none 0 0)
  have hbX := (hB2.setCell (p := ⟨w.heap.size + 1 + 1, 0, none⟩) (by show w.heap.size <= w.heap.size + 1 + 1; omega) (.slice none 0 0)).setCell (p := ⟨w.heap.size + 1 + 1, 1, none⟩) (by show w.heap.size <= w.heap.size + 1 + 1; omega) (.slice none 0 0)
  have HS2 := Lib.hid s2
  clear s2 m2 m3
  go_wp2_with fail
  have k2' := block_cell HS2.out 0
  have k3' := block_cell HS2.out 1
  exact bodyPost_ret (v := .tuple #[.agg #[.slice none 0 0, .slice none 0 0], .int .i64 (tieE tie)]) (by simp [results, Tryz.results8, go_sem, k2', k3']) rfl
   ⟨_, _, by rw [HE.out.1], by rw [HE.out.2]; exact ⟨SlS.nil _ _, SlS.nil _ _⟩, hbX⟩
 have hnb : (tieE tie == 0) = true := by simpa using hn
 cases hf : thas g.ties tie with
 | true =>
  have HE := Lib.hid (P2.out hn hf)
  have hz : zt = (tpos g.ties tie : Int) := by rw [HZ.out, hf]; rfl
  subst hz
  have hp : (0 : Int) <= (tpos g.ties tie : Int) := by omega
  rw [hn]
  clear hn hf HZ P1 P2 P3 P4 hnb o8 o9 o10
  have a0 := block_free m2 0
  have a1 := block_free m2 1
  have a2 := block_cell m2 0
  have a3 := block_cell m2 1
  have y0 := block_cell m3 0
  have y1 := block_cell m3 1
  have s2 := setCell_block (setCell_block m2 0 (.slice none 0 0)) 1 (.slice none 0 0)
  have hbX := (hB2.setCell (p := ⟨w.heap.size + 1 + 1, 0, none⟩) (by show w.heap.size <= w.heap.size + 1 + 1; omega) (.slice none 0 0)).setCell (p := ⟨w.heap.size + 1 + 1, 1, none⟩) (by show w.heap.size <= w.heap.size + 1 + 1; omega) (.slice none 0 0)
  have HS2 := Lib.hid s2
  clear s2 m2 m3
  go_wp2_with fail
  have k2' := block_cell HS2.out 0
  have k3' := block_cell HS2.out 1
  exact bodyPost_ret (v := .tuple #[.agg #[.slice none 0 0, .slice none 0 0], .int .i64 (7)]) (by simp [results, Tryz.results8, go_sem, k2', k3']) rfl
   ⟨_, _, by rw [HE.out.1], by rw [HE.out.2]; exact ⟨SlS.nil _ _, SlS.nil _ _⟩, hbX⟩
 | false =>
  have hz : zt = -1 := by rw [HZ.out, hf]; rfl
  subst hz
  rw [hn]
  by_cases hl : 120 <= g.ties.length
  ·have HE := Lib.hid (P3.out hn hf hl)
   have hl' : (120 : Int) <= (g.ties.length : Int) := by omega
   clear hn hf HZ P1 P2 P3 P4 hl hnb o8 o9 o10
   have a0 := block_free m2 0
   have a1 := block_free m2 1
   have a2 := block_cell m2 0
   have a3 := block_cell m2 1
   have y0 := block_cell m3 0
   have y1 := block_cell m3 1
   have s2 := setCell_block (setCell_block m2 0 (.slice none 0 0)) 1 (.slice none 0 0)
   have hbX := (hB2.setCell (p := ⟨w.heap.size + 1 + 1, 0, none⟩) (by show w.heap.size <= w.heap.size + 1 + 1; omega) (.slice none 0 0)).setCell (p := ⟨w.heap.size + 1 + 1, 1, none⟩) (by show w.heap.size <= w.heap.size + 1 + 1; omega) (.slice none 0 0)
   have HS2 := Lib.hid s2
   clear s2 m2 m3
   go_wp2_with fail
   have k2' := block_cell HS2.out 0
   have k3' := block_cell HS2.out 1
   exact bodyPost_ret (v := .tuple #[.agg #[.slice none 0 0, .slice none 0 0], .int .i64 (4)]) (by simp [results, Tryz.results8, go_sem, k2', k3']) rfl
    ⟨_, _, by rw [HE.out.1], by rw [HE.out.2]; exact ⟨SlS.nil _ _, SlS.nil _ _⟩, hbX⟩
  have HE := Lib.hid (P4.out hn hf (by omega))
  have hl' : ¬ (120 : Int) <= (g.ties.length : Int) := by omega
  have hfp : tpos g.ties tie <= g.ties.length := lowI_le _ _
  have HLO : Hid (∀ (k : Nat) (t : Tie), k < tpos g.ties tie -> g.ties[k]? = some t -> tieO t tie < 0) := fun k t hk ht => low_lt (c := tieC tie) hk ht
  have HHI : Hid (∀ t : Tie, g.ties[tpos g.ties tie]? = some t -> 0 <= tieO t tie) := fun t ht => low_at (c := tieC tie) ht
  clear hn hf HZ P1 P2 P3 P4 hnb m2 m3 hB2
  go_upto_block 7 with fail
  go_cut [19] (fun v wx => v = .int .i64 (tpos g.ties tie) /\ Below w4.heap.size w4 wx)
  case first =>
   go_wp2_with fail
   go_loopw [19] (fun i wr => ∃ k : Nat, k <= tpos g.ties tie /\ i = .int .i64 k /\ Below w4.heap.size w4 wr) (fun i _ => g.ties.length - (intOf i).toNat)
   case atStart => exact ⟨0, Nat.zero_le _, rfl, Below.refl _ _⟩
   obtain ⟨k, hk, rfl, hbr⟩ := hrel
   have x1 := cell_below hbr x1
   have o8 := cell_below hbr o8
   have o9 := cell_below hbr o9
   have o10 := cell_below hbr o10
   by_cases hkl : k < g.ties.length
   ·obtain ⟨t, ht⟩ : ∃ d, g.ties[k]? = some d := ⟨_, List.getElem?_eq_getElem hkl⟩
    have hkl' : (k : Int) < (g.ties.length : Int) := by omega
    obtain ⟨gb, oo, hA, htok, u0, u1, u2⟩ := tie_at (HGW.out.2.below (HR4.out.b.trans (hbr.mono HR4.out.b.size))) ht
    subst hA
    have hord := fun (x : World) => rless_any t tie x
    have HYES : Hid (decide (tieO t tie < 0) = true -> k + 1 <= tpos g.ties tie) := fun h => by
     have h1 := of_decide_eq_true h
     rcases Nat.lt_or_ge k (tpos g.ties tie) with h2 | h2
     ·omega
     have h3 : k = tpos g.ties tie := by omega
     have h4 := HHI.out t (by rw [<- h3]; exact ht)
     omega
    have HNO : Hid (decide (tieO t tie < 0) = false -> k = tpos g.ties tie) := fun h => by
     have h1 := of_decide_eq_false h
     rcases Nat.lt_or_ge k (tpos g.ties tie) with h2 | h2
     ·exact absurd (HLO.out k t h2 ht) h1
     omega
    generalize decide (tieO t tie < 0) = q at *
    clear ht htok
    go_wp2_with fail
    refine wp_mid_g 13 _ rfl rfl (by kernel_rfl) ?_
    simp only [List.take_succ_cons, List.take_zero, List.drop_succ_cons, List.drop_zero]
    repeat (go_big_quiet_step (fail))
    refine wpQuiet_nil ?_
    refine ⟨by simp [Region.wanted, yielded, go_sem], ?_⟩
    intro _ hw'
    obtain ⟨nq, hw''⟩ := hw'
    subst hw''
    intro K hK
    have hk1 := hord (wr.drewN nq)
    clear hord
    go_wp2_with fail
    refine hk1.mono ?_
    clear hk1
    rintro e w5 ⟨rfl, hb5⟩
    have hb6 := hbr.trans (((below_drewN (Below.refl wr.heap.size wr) nq).trans hb5).mono hbr.size)
    refine hK _ _ ?_
    repeat (go_big_quiet_step (fail))
    refine wpQuiet_nil ?_
    intro _ hw'
    obtain ⟨nq2, hw''⟩ := hw'
    subst hw''
    clear hK
    have hbX := below_drewN hb6 nq2
    generalize w5.drewN nq2 = w6 at *
    clear hb5 hb6 x1 o8 o9 o10 u0 u1 u2
    cases q with
    | true =>
     have HK := Lib.hid (HYES.out rfl)
     clear HYES HNO
     go_wp2_with fail
     go_roundw
     case rel => exact ⟨k + 1, HK.out, by go_num, hbX⟩
     case measure => simp [intOf]; omega
    | false =>
     have HK := Lib.hid (HNO.out rfl)
     clear HYES HNO
     go_wp2_with fail
     go_meet
     exact ⟨by rw [HK.out], hbX⟩
   have HKE : Hid (k = tpos g.ties tie) := by unfold Hid; omega
   have hkl' : ¬ (k : Int) < (g.ties.length : Int) := by omega
   have hkld : decide ((k : Int) < (g.ties.length : Int)) = false := decide_eq_false hkl'
   have hkld2 : decide (k < g.ties.length) = false := decide_eq_false hkl
   go_wp2_with fail
   go_quiet (fail)
   go_wp2_with fail
   go_meet
   exact ⟨by rw [HKE.out], below_drewN hbr _⟩
  case rest =>
  obtain ⟨rfl, hb45⟩ := hcut
  obtain ⟨w5, rfl⟩ : ∃ x : World, x = wc := ⟨_, rfl⟩
  have HR2 := Lib.hid (HR4.out.below hb45)
  clear hb45 HR4 x1 o8 o9 o10 HLO HHI
  have HFPL : Hid (tpos g.ties tie <= g.ties.length) := hfp
  generalize tpos g.ties tie = k at *
  obtain ⟨Arow, crow, xs, hvrow, _, _, hxall⟩ := HGS.out.2
  cases hvrow
  have hxs0 := hxall w (Stay.refl HBW.out)
  have HXR := Lib.hid hxs0.1
  have HXC := Lib.hid hxs0.2
  have HXS : Hid (∀ W', Stay w0 w W' -> Row tieL W' _ xs) := fun W' hW => (hxall W' hW).1
  clear hxs0 hxall
  obtain ⟨n0, ni, nz, nz1, nz2⟩ := info_parts tieT_info
  obtain ⟨B, hBe⟩ : ∃ B, B = W0.heap.size := ⟨_, rfl⟩
  have q0 := HR2.out.old G0.out (by omega)
  have x1 := block_cell q0 1
  have y1 := block_cell HR2.out.q 1
  clear q0
  have hk1 : (0 : Int) <= (k : Int) := by omega
  have hkc : (k : Int) <= (c2 : Int) := by omega
  have hkc2 : (k : Int) <= (g.ties.length : Int) := by omega
  have hsl := cut_headT A2 c2 g.ties.length k (by omega)
  have hxl : xs.length = g.ties.length * 3 := HXR.out.len
  have HN1 : Hid ((xs.take (k * 3)).length = k * 3) := by unfold Hid; rw [List.length_take, hxl]; omega
  have HN3 : Hid ((xs.drop (k * 3)).length = (g.ties.length - k) * 3) := by unfold Hid; rw [List.length_drop, hxl]; omega
  have HONE : Hid (∀ u ∈ xs, u.oneCell' = true) := HXR.out.oneCell one_tie
  go_wp2_with fail
  refine wp_quiet_tail 6 (by kernel_rfl) (by kernel_rfl) ?_
  simp only [List.take_succ_cons, List.take_zero, List.drop_succ_cons, List.drop_zero]
  repeat (go_big_quiet_step (fail))
  refine wpQuiet_nil ?_
  intro _ hw'
  obtain ⟨nq3, hw''⟩ := hw'
  subst hw''
  clear hsl
  have hbz := below_drewN (Below.refl w5.heap.size w5) nq3
  have HR := Lib.hid (HR2.out.below hbz)
  clear HR2
  generalize w5.drewN nq3 = wz at *
  have HNW : Hid (0 < k -> ∃ a, A2 = some a /\ ∀ j u, (xs.take (k * 3))[j]? = some u -> wz.cell? (a.add j) = some u) := fun h => by
   obtain ⟨a, h1, h2⟩ := head_cells HXC.out (by omega) h
   exact ⟨a, h1, fun j u hj => cell_below HR.out.b (h2 j u hj)⟩
  have HOA : Hid (Own wz B 35 3 (.slice none 0 0) 0 []) := Own.nil _ _ _ _
  have hBz : B <= wz.heap.size := by rw [hBe]; exact HR.out.k.s
  clear y1 x1 hbz
  go_upto_region 76 with (first
   | (at_builtin; refine wpList_append_q _ rfl (.tmp 298) (.tmp 302) _ rfl B 35 n0 (.agg #[.string .empty, .int .i64 0, .int .i64 0]) 3 32 Tryz.underlying23 ni nz nz1 nz2 rfl (by decide) (.slice none 0 0) 0 [] rfl HOA.out A2 k c2 (xs.take (k * 3)) rfl HN1.out HNW.out (fun u hu => HONE.out u (List.mem_of_mem_take hu)) (by unfold maxLen; omega) (by omega) hBz ?_; intro v7 w7 hown7 hg7 hat7
      have hr7 := HR.out.grown (by rw [<- hBe]; exact HOA.out) hw0 (by decide) hg7
      have f0 := block_free hr7.q 1
      have r0 := block_cell hr7.q 1
      obtain ⟨A7, c7, hv7, _, _⟩ := hown7.form
      subst hv7))
  have HR2 := Lib.hid (hr7.setT (.slice A7 (k) c7))
  have hoa2 := hown7.same (hr7.same 1 (.slice A7 (k) c7) (T := 35) (by decide))
  clear f0 r0 hr7 hown7 hg7 hat7 HR HOA HNW
  generalize w7.setCell ⟨w.heap.size + 1 + 1 + 1, 1, none⟩ (.slice A7 (k) c7) = w8 at *
  have HB8 : Hid (B <= w8.heap.size) := by unfold Hid; rw [hBe]; exact HR2.out.k.s
  have q1 := HR2.out.old G1.out (by omega)
  have o8 := block_cell q1 8
  have o9 := block_cell q1 9
  have o10 := block_cell q1 10
  clear q1
  have hal : Below w8.heap.size w8 (w8.alloc (.cells #[.string tie.bond, .int .i64 tie.src, .int .i64 tie.dst] 35)) := (Below.refl _ _).alloc (Nat.le_refl _) _
  have HR := Lib.hid (HR2.out.below hal)
  have HBZ : Hid (B <= (w8.alloc (.cells #[.string tie.bond, .int .i64 tie.src, .int .i64 tie.dst] 35)).heap.size) := Nat.le_trans HB8.out hal.size
  have HNW : Hid (∀ j u, (Tie.enc tie)[j]? = some u -> (w8.alloc (.cells #[.string tie.bond, .int .i64 tie.src, .int .i64 tie.dst] 35)).cell? ⟨w8.heap.size, j, none⟩ = some u) := fun j u hj => by
   rw [World.cell?_alloc_at _ _ _ _ rfl]; simpa [Tie.enc] using hj
  clear hal
  have hoa := hoa2.alloc (.cells #[.string tie.bond, .int .i64 tie.src, .int .i64 tie.dst] 35)
  rw [Nat.zero_add, List.nil_append] at hoa
  have HOA := Lib.hid hoa
  have y1 := block_cell HR2.out.q 1
  clear hoa hoa2
  go_upto_region 77 with (first
   | (at_builtin; refine wpList_append_q _ rfl (.tmp 306) (.tmp 309) _ rfl B 35 n0 (.agg #[.string .empty, .int .i64 0, .int .i64 0]) 3 32 Tryz.underlying23 ni nz nz1 nz2 rfl (by decide) (.slice A7 k c7) k (xs.take (k * 3)) rfl HOA.out (some ⟨w8.heap.size, 0, none⟩) 1 1 (Tie.enc tie) rfl rfl (fun _ => ⟨_, rfl, fun j u hj => by rw [addr_add, Nat.zero_add]; exact HNW.out j u hj⟩) (Tie.enc_one _) (by unfold maxLen; omega) (by omega) HBZ.out ?_; intro v7 w7 hown7 hg7 hat7
      have hr7 := HR.out.grown (by rw [<- hBe]; exact HOA.out) hw0 (by decide) hg7
      have f0 := block_free hr7.q 1
      have r0 := block_cell hr7.q 1
      obtain ⟨A7, c7, hv7, _, _⟩ := hown7.form
      subst hv7))
  clear HR2 y1 o8 o9 o10
  have HR2 := Lib.hid (hr7.setT (.slice A7 (k + 1) c7))
  have hoa2 := hown7.same (hr7.same 1 (.slice A7 (k + 1) c7) (T := 35) (by decide))
  clear f0 r0 hr7 hown7 hg7 hat7 HR HOA HNW
  generalize w7.setCell ⟨w.heap.size + 1 + 1 + 1, 1, none⟩ (.slice A7 (k + 1) c7) = w8 at *
  have HB8 : Hid (B <= w8.heap.size) := by unfold Hid; rw [hBe]; exact HR2.out.k.s
  have q0 := HR2.out.old G0.out (by omega)
  have x1 := block_cell q0 1
  have y1 := block_cell HR2.out.q 1
  have hsl := cut_tailT A2 c2 g.ties.length k (by omega)
  have HTC := Lib.hid (tail_cells HXC.out (by omega : g.ties.length <= c2) HFPL.out)
  obtain ⟨At, hAt⟩ : ∃ At, At = (if c2 = k then A2 else A2.map (fun a => a.add (k * 3))) := ⟨_, rfl⟩
  rw [<- hAt] at hsl HTC
  clear hAt q0
  go_wp2_with fail
  refine wp_quiet_tail 6 (by kernel_rfl) (by kernel_rfl) ?_
  simp only [List.take_succ_cons, List.take_zero, List.drop_succ_cons, List.drop_zero]
  repeat (go_big_quiet_step (fail))
  refine wpQuiet_nil ?_
  intro _ hw'
  obtain ⟨nq3, hw''⟩ := hw'
  subst hw''
  clear hsl
  have hbz := below_drewN (Below.refl w8.heap.size w8) nq3
  have HR := Lib.hid (HR2.out.below hbz)
  have HOA := Lib.hid (hoa2.below hbz)
  have HBZ : Hid (B <= (w8.drewN nq3).heap.size) := Nat.le_trans HB8.out hbz.size
  clear hbz hoa2 HB8 HR2
  generalize w8.drewN nq3 = wz at *
  have HNW : Hid (0 < g.ties.length - k -> ∃ a, At = some a /\ ∀ j u, (xs.drop (k * 3))[j]? = some u -> wz.cell? (a.add j) = some u) := fun h => by
   obtain ⟨a, h1, h2⟩ := HTC.out h
   exact ⟨a, h1, fun j u hj => cell_below HR.out.b (h2 j u hj)⟩
  go_upto_region 78 with (first
   | (at_builtin; refine wpList_append_q _ rfl (.tmp 313) (.tmp 317) _ rfl B 35 n0 (.agg #[.string .empty, .int .i64 0, .int .i64 0]) 3 32 Tryz.underlying23 ni nz nz1 nz2 rfl (by decide) (.slice A7 (k + 1) c7) (k + 1) (xs.take (k * 3) ++ Tie.enc tie) rfl HOA.out At (g.ties.length - k) (c2 - k) (xs.drop (k * 3)) rfl HN3.out HNW.out (fun u hu => HONE.out u (List.mem_of_mem_drop hu)) (by unfold maxLen; omega) (by omega) HBZ.out ?_; intro v7 w7 hown7 hg7 hat7
      have hr7 := HR.out.grown (by rw [<- hBe]; exact HOA.out) hw0 (by decide) hg7
      have f0 := block_free hr7.q 1
      have r0 := block_cell hr7.q 1
      obtain ⟨A7, c7, hv7, _, _⟩ := hown7.form
      subst hv7))
  have HR2 := Lib.hid (hr7.setT (.slice A7 (k + 1 + (g.ties.length - k)) c7))
  have hoa2 := hown7.same (hr7.same 1 (.slice A7 (k + 1 + (g.ties.length - k)) c7) (T := 35) (by decide))
  clear f0 r0 hr7 hown7 hg7 hat7 HR HOA HNW
  generalize w7.setCell ⟨w.heap.size + 1 + 1 + 1, 1, none⟩ (.slice A7 (k + 1 + (g.ties.length - k)) c7) = w8 at *
  have HB8 : Hid (B <= w8.heap.size) := by unfold Hid; rw [hBe]; exact HR2.out.k.s
  have HON := Lib.hid hoa2
  have HTOK : Hid tie.ok := HOW.out.t
  clear hoa2 HTC HN1 HN3 HONE
  have m2 := HR2.out.old G2.out (by omega)
  have a0 := block_free m2 0
  have a1 := block_free m2 1
  have a2 := block_cell m2 0
  have a3 := block_cell m2 1
  have y0 := block_cell HR2.out.q 0
  have y1 := block_cell HR2.out.q 1
  have s2 := setCell_block (setCell_block m2 0 (.slice A1 g.nodes.length c1)) 1 (.slice A7 (k + 1 + (g.ties.length - k)) c7)
  have hbX := (HR2.out.b.setCell (p := ⟨w.heap.size + 1 + 1, 0, none⟩) (by show w.heap.size <= w.heap.size + 1 + 1; omega) (.slice A1 g.nodes.length c1)).setCell (p := ⟨w.heap.size + 1 + 1, 1, none⟩) (by show w.heap.size <= w.heap.size + 1 + 1; omega) (.slice A7 (k + 1 + (g.ties.length - k)) c7)
  have HS2 := Lib.hid s2
  have HSM : Hid (∀ {T : TypeId}, 25 ≠ T -> Same T w8 ((w8.setCell ⟨w.heap.size + 1 + 1, 0, none⟩ (.slice A1 g.nodes.length c1)).setCell ⟨w.heap.size + 1 + 1, 1, none⟩ (.slice A7 (k + 1 + (g.ties.length - k)) c7))) := fun hT => (Same.setCell (p := ⟨w.heap.size + 1 + 1, 0, none⟩) m2 hT (.slice A1 g.nodes.length c1)).trans (Same.setCell (p := ⟨w.heap.size + 1 + 1, 1, none⟩) (setCell_block m2 0 (.slice A1 g.nodes.length c1)) hT (.slice A7 (k + 1 + (g.ties.length - k)) c7))
  have HBX := Lib.hid hbX
  have HST : Hid (∀ W', Stay w0 ((w8.setCell ⟨w.heap.size + 1 + 1, 0, none⟩ (.slice A1 g.nodes.length c1)).setCell ⟨w.heap.size + 1 + 1, 1, none⟩ (.slice A7 (k + 1 + (g.ties.length - k)) c7)) W' -> Stay w0 w W') := fun W' hW => hW.from HBX.out
  clear s2 m2 hbX
  go_wp2_with fail
  have k2' := block_cell HS2.out 0
  have k3' := block_cell HS2.out 1
  refine bodyPost_ret (v := .tuple #[.agg #[.slice A1 g.nodes.length c1, .slice A7 (k + 1 + (g.ties.length - k)) c7], .int .i64 (0)]) (by simp [results, Tryz.results8, go_sem, k2', k3']) rfl
   ⟨_, _, by rw [HE.out.1], by rw [HE.out.2]; exact ⟨HGS.out.1.stay HST.out, Own.slS (L := tieL) (by rw [show (g.ties.take k ++ tie :: g.ties.drop k).length = k + 1 + (g.ties.length - k) by rw [List.length_append, List.length_cons, List.length_take, List.length_drop, Nat.min_eq_left hfp]; omega]; exact HON.out.same (HSM.out (by decide))) (by decide) (fun W' hW => Row.insert (HXS.out W' (HST.out W' hW)) k hfp ⟨rfl, HTOK.out⟩)⟩, HBX.out⟩
theorem rdother_parts (g : Grf) (what : Int) (node : Nod) (prop : Prp) (tie : Tie) (h : grfE g = 0) (h1 : ¬ what = 1) (h2 : ¬ what = 2) (h3 : ¬ what = 3) (h4 : ¬ what = 4) (h5 : ¬ what = 5) (h6 : ¬ what = 6) : doE g ⟨what, node, prop, tie⟩ = 1 /\ doG g ⟨what, node, prop, tie⟩ = ⟨[], []⟩ := by
 obtain ⟨d1, d2, d3⟩ := doE_right h ⟨what, node, prop, tie⟩
 have e : opE g ⟨what, node, prop, tie⟩ = 1 := by unfold opE; simp [h1, h2, h3, h4, h5, h6]
 exact ⟨by rw [d1, e], d2 (by rw [e]; omega)⟩
set_option maxRecDepth 100000 in
set_option maxHeartbeats 32000000 in
theorem rdo_other (what : Int) (g : Grf) (node : Nod) (prop : Prp) (tie : Tie) (vn vt : Value) (Ar : Option Addr) (cr : Nat) (w0 w : World) (hbw0 : Below w0.heap.size w0 w) (hgs : GrfS w0 w vn vt g) (ho : OprR w0 (.slice Ar node.props.length cr) ⟨what, node, prop, tie⟩) (h0 : grfE g = 0)
 (h1 : ¬ what = 1) (h2 : ¬ what = 2) (h3 : ¬ what = 3) (h4 : ¬ what = 4) (h5 : ¬ what = 5) (h6 : ¬ what = 6) :
 Calls Tryz.prog 8 #[.agg #[vn, vt], .agg #[.int .i64 what, .int .i64 node.id, .string node.kind, .slice Ar node.props.length cr, .string prop.name, .int .i64 prop.v.ty, .int .i64 prop.v.n, .string prop.v.s, .string tie.bond, .int .i64 tie.src, .int .i64 tie.dst]] w (RetGI w0 (doG g ⟨what, node, prop, tie⟩) (doE g ⟨what, node, prop, tie⟩) w) := by
 have hg := hgs.r hbw0
 have HGS := Lib.hid hgs
 have HBW := Lib.hid hbw0
 have hobase := ho
 have ho := hobase.below hbw0
 have HOB := Lib.hid hobase
 clear hobase hgs hbw0
 obtain ⟨A1, c1, rfl, _, _⟩ := hg.1.form
 obtain ⟨A2, c2, rfl, _, _⟩ := hg.2.form
 obtain ⟨W0, hW0⟩ : ∃ W0, W0 = (((w.alloc (.cells #[.slice A1 g.nodes.length c1, .slice A2 g.ties.length c2] 25)).alloc (.cells #[.int .i64 what, .int .i64 node.id, .string node.kind, .slice Ar node.props.length cr, .string prop.name, .int .i64 prop.v.ty, .int .i64 prop.v.n, .string prop.v.s, .string tie.bond, .int .i64 tie.src, .int .i64 tie.dst] 37)).alloc (.cells #[.slice none 0 0, .slice none 0 0] 25)).alloc (.cells #[.slice none 0 0, .slice none 0 0] 25) := ⟨_, rfl⟩
 have hb0 : Below w.heap.size w W0 := by rw [hW0]; exact ((((Below.refl _ _).alloc (Nat.le_refl _) _).alloc (by simp only [World.size_alloc]; omega) _).alloc (by simp only [World.size_alloc]; omega) _).alloc (by simp only [World.size_alloc]; omega) _
 have g0 : W0.heap[w.heap.size]? = some (.cells #[.slice A1 g.nodes.length c1, .slice A2 g.ties.length c2] 25 (0, 0)) := by
  rw [hW0, Below.heap_alloc _ _ _ (by simp only [World.size_alloc]; omega), Below.heap_alloc _ _ _ (by simp only [World.size_alloc]; omega), Below.heap_alloc _ _ _ (by simp only [World.size_alloc]; omega)]; exact heap_alloc_new _ _
 have g1 : W0.heap[w.heap.size + 1]? = some (.cells #[.int .i64 what, .int .i64 node.id, .string node.kind, .slice Ar node.props.length cr, .string prop.name, .int .i64 prop.v.ty, .int .i64 prop.v.n, .string prop.v.s, .string tie.bond, .int .i64 tie.src, .int .i64 tie.dst] 37 (0, 0)) := by
  have := heap_alloc_new (w.alloc (.cells #[.slice A1 g.nodes.length c1, .slice A2 g.ties.length c2] 25)) (.cells #[.int .i64 what, .int .i64 node.id, .string node.kind, .slice Ar node.props.length cr, .string prop.name, .int .i64 prop.v.ty, .int .i64 prop.v.n, .string prop.v.s, .string tie.bond, .int .i64 tie.src, .int .i64 tie.dst] 37); rw [hW0, Below.heap_alloc _ _ _ (by simp only [World.size_alloc]; omega), Below.heap_alloc _ _ _ (by simp only [World.size_alloc]; omega)]; simpa using this
 have g2 : W0.heap[w.heap.size + 1 + 1]? = some (.cells #[.slice none 0 0, .slice none 0 0] 25 (0, 0)) := by
  have := heap_alloc_new ((w.alloc (.cells #[.slice A1 g.nodes.length c1, .slice A2 g.ties.length c2] 25)).alloc (.cells #[.int .i64 what, .int .i64 node.id, .string node.kind, .slice Ar node.props.length cr, .string prop.name, .int .i64 prop.v.ty, .int .i64 prop.v.n, .string prop.v.s, .string tie.bond, .int .i64 tie.src, .int .i64 tie.dst] 37)) (.cells #[.slice none 0 0, .slice none 0 0] 25); rw [hW0, Below.heap_alloc _ _ _ (by simp only [World.size_alloc]; omega)]; simpa using this
 have g3 : W0.heap[w.heap.size + 1 + 1 + 1]? = some (.cells #[.slice none 0 0, .slice none 0 0] 25 (0, 0)) := by
  have := heap_alloc_new (((w.alloc (.cells #[.slice A1 g.nodes.length c1, .slice A2 g.ties.length c2] 25)).alloc (.cells #[.int .i64 what, .int .i64 node.id, .string node.kind, .slice Ar node.props.length cr, .string prop.name, .int .i64 prop.v.ty, .int .i64 prop.v.n, .string prop.v.s, .string tie.bond, .int .i64 tie.src, .int .i64 tie.dst] 37)).alloc (.cells #[.slice none 0 0, .slice none 0 0] 25)) (.cells #[.slice none 0 0, .slice none 0 0] 25); rw [hW0]; simpa using this
 have hW0' := hW0.symm
 have hw0 := hb0.size
 have HE := Lib.hid (rdother_parts g what node prop tie h0 h1 h2 h3 h4 h5 h6)
 have e1 : (what == 1) = false := by simpa using h1
 have e2 : (what == 2) = false := by simpa using h2
 have e3 : (what == 3) = false := by simpa using h3
 have e4 : (what == 4) = false := by simpa using h4
 have e5 : (what == 5) = false := by simpa using h5
 have e6 : (what == 6) = false := by simpa using h6
 clear h1 h2 h3 h4 h5 h6
 obtain ⟨k1, k2, k3, k4⟩ := grf_ok h0
 have hx := rgfind_any g _ _ node.id W0 (hg.below hb0)
 rw [idx_nod k3] at hx
 have x0 := block_cell g0 0
 have x1 := block_cell g0 1
 have o0 := block_cell g1 0
 have o1 := block_cell g1 1
 have o2 := block_cell g1 2
 have o3 := block_cell g1 3
 have G0 := Lib.hid g0
 have G1 := Lib.hid g1
 have G2 := Lib.hid g2
 have G3 := Lib.hid g3
 have HGW := Lib.hid hg
 have HOW := Lib.hid ho
 have HG := Lib.hid (hg.below hb0)
 have HO := Lib.hid (ho.below hb0)
 have HFHL : Hid (fhas g.nodes node.id = true -> fpos g.nodes node.id < g.nodes.length) := fun h => by obtain ⟨n, hn⟩ := fhas_some' h; exact (List.getElem?_eq_some_iff.1 hn).1
 generalize hfz : (if fhas g.nodes node.id = true then (fpos g.nodes node.id : Int) else -1) = fz at *
 have HFZ := Lib.hid hfz
 clear hg ho g0 g1 g2 g3 hW0 hfz
 go_enter Tryz.func8, Tryz.ntmps8
 go_wp2_with fail
 clear hW0'
 refine hx.mono ?_
 clear hx
 rintro e w1 ⟨rfl, hb1⟩
 have hB1 := hb0.trans (hb1.mono hw0)
 have m0 := (hb1.block _ (geB G0.out)).trans G0.out
 have m1 := (hb1.block _ (geB G1.out)).trans G1.out
 have m2 := (hb1.block _ (geB G2.out)).trans G2.out
 have m3 := (hb1.block _ (geB G3.out)).trans G3.out
 have x0 := block_cell m0 0
 have x1 := block_cell m0 1
 have o0 := block_cell m1 0
 have o1 := block_cell m1 1
 clear m0
 generalize doE g ⟨what, node, prop, tie⟩ = de at *
 generalize doG g ⟨what, node, prop, tie⟩ = dg at *
 clear k3 k4
 have hB2 := hB1
 have a0 := block_free m2 0
 have a1 := block_free m2 1
 have a2 := block_cell m2 0
 have a3 := block_cell m2 1
 have y0 := block_cell m3 0
 have y1 := block_cell m3 1
 have s2 := setCell_block (setCell_block m2 0 (.slice none 0 0)) 1 (.slice none 0 0)
 have hbX := (hB2.setCell (p := ⟨w.heap.size + 1 + 1, 0, none⟩) (by show w.heap.size <= w.heap.size + 1 + 1; omega) (.slice none 0 0)).setCell (p := ⟨w.heap.size + 1 + 1, 1, none⟩) (by show w.heap.size <= w.heap.size + 1 + 1; omega) (.slice none 0 0)
 have HS2 := Lib.hid s2
 clear s2 m2 m3
 go_wp2_with fail
 have k2' := block_cell HS2.out 0
 have k3' := block_cell HS2.out 1
 exact bodyPost_ret (v := .tuple #[.agg #[.slice none 0 0, .slice none 0 0], .int .i64 (1)]) (by simp [results, Tryz.results8, go_sem, k2', k3']) rfl
  ⟨_, _, by rw [HE.out.1], by rw [HE.out.2]; exact ⟨SlS.nil _ _, SlS.nil _ _⟩, hbX⟩
theorem rdo_any (g : Grf) (o : Opr) (vn vt vr : Value) (w0 w : World) (hbw0 : Below w0.heap.size w0 w) (hgs : GrfS w0 w vn vt g) (ho : OprR w0 vr o) (h0 : grfE g = 0) :
 Calls Tryz.prog 8 #[.agg #[vn, vt], .agg #[.int .i64 o.what, .int .i64 o.node.id, .string o.node.kind, vr, .string o.prop.name, .int .i64 o.prop.v.ty, .int .i64 o.prop.v.n, .string o.prop.v.s, .string o.tie.bond, .int .i64 o.tie.src, .int .i64 o.tie.dst]] w (RetGI w0 (doG g o) (doE g o) w) := by
 obtain ⟨what, node, prop, tie⟩ := o
 obtain ⟨Ar, cr, hv, _, _⟩ := ho.r.form
 subst hv
 by_cases h1 : what = 1
 ·subst h1; exact rdo_new g node prop tie vn vt Ar cr w0 w hbw0 hgs ho h0
 by_cases h2 : what = 2
 ·subst h2; exact rdo_gone g node prop tie vn vt Ar cr w0 w hbw0 hgs ho h0
 by_cases h3 : what = 3
 ·subst h3; exact rdo_set g node prop tie vn vt Ar cr w0 w hbw0 hgs ho h0
 by_cases h4 : what = 4
 ·subst h4; exact rdo_unset g node prop tie vn vt Ar cr w0 w hbw0 hgs ho h0
 by_cases h5 : what = 5
 ·subst h5; exact rdo_bind g node prop tie vn vt Ar cr w0 w hbw0 hgs ho h0
 by_cases h6 : what = 6
 ·subst h6; exact rdo_loose g node prop tie vn vt Ar cr w0 w hbw0 hgs ho h0
 exact rdo_other what g node prop tie vn vt Ar cr w0 w hbw0 hgs ho h0 h1 h2 h3 h4 h5 h6
end Go.Proofs.YtngbbefpphinjaaGreatDoor
