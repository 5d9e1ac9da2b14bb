/- Contract: delta.gone. -/
import Derived.Test.YtdfeloeainabjaaDelO
import Derived.Test.YtdfeloeainabjaaGrO
namespace Go.Proofs.Ytdfeloeainabjaa
open Go Go.RowKit

theorem gone1_any (id : Int) (d : Tie) (bk : Nat) (w : World) (hc : w.cell? ⟨bk, 0, none⟩ = some (.int .i64 id)) :
    Calls Try.prog 119 #[.agg #[.string d.bond, .int .i64 d.src, .int .i64 d.dst], .pointer (some ⟨bk, 0, none⟩)] w fun e w' => e = .returned (.bool (touch id d)) ∧ Below w.heap.size w w' := by
  have hb0 : Below w.heap.size w (w.alloc (.cells #[.string d.bond, .int .i64 d.src, .int .i64 d.dst] 35)) := (Below.refl _ _).alloc (Nat.le_refl _) _
  have hc2 := cell_below hb0 hc
  obtain ⟨z0, z1, z2⟩ := cell_box3 w (.string d.bond) (.int .i64 d.src) (.int .i64 d.dst) 35
  have HE : Hid (touch id d = ((d.src == id) || (d.dst == id))) := rfl
  cases h1 : (d.src == id) with
  | true =>
    have h1' : d.src = id := by simpa using h1
    subst h1'
    go_enter Try.func119, Try.ntmps119
    go_wp2_with fail
    go_ret
    exact ⟨by rw [HE.out, h1]; rfl, hb0⟩
  | false =>
    have h1' : ¬ d.src = id := by simpa using h1
    go_enter Try.func119, Try.ntmps119
    go_wp2_with fail
    go_ret
    exact ⟨by rw [HE.out, h1]; rfl, hb0⟩
theorem goneNods_len {g : Grf} {id : Int} (h : fpos g.nodes id < g.nodes.length) : (goneG g id).nodes.length = g.nodes.length - 1 := by
  unfold goneG; simp; omega
set_option maxRecDepth 100000 in
set_option maxHeartbeats 8000000 in
theorem gone_any (g : Grf) (id : Int) (vn vt : Value) (xs : List Value) (B : Nat) (w : World) (hB : B ≤ w.heap.size) (hG : OwnG w B vn vt g xs) (hc : chain nodLt g.nodes = true) (hn : g.nodes.length ≤ 1000) (ht : g.ties.length ≤ 1000) :
    Calls Try.prog 80 #[.agg #[vn, vt], .int .i64 id] w (RetOG B vn vt (goneG g id) (if fhas g.nodes id then 0 else 5) w) := by
  obtain ⟨An, cn, rfl, _, _⟩ := hG.n.form
  obtain ⟨At, ct, rfl, _, _⟩ := hG.t.form
  have hb0 : Below w.heap.size w (((w.alloc (.cells #[.slice An g.nodes.length cn, .slice At g.ties.length ct] 29)).alloc (.cells #[.int .i64 id] 3)).alloc (.cells #[.slice none 0 0, .slice none 0 0] 29)) := (((Below.refl _ _).alloc (Nat.le_refl _) _).alloc (by simp) _).alloc (by simp; omega) _
  have g0 : (((w.alloc (.cells #[.slice An g.nodes.length cn, .slice At g.ties.length ct] 29)).alloc (.cells #[.int .i64 id] 3)).alloc (.cells #[.slice none 0 0, .slice none 0 0] 29)).heap[w.heap.size]? = some (.cells #[.slice An g.nodes.length cn, .slice At g.ties.length ct] 29 (0, 0)) := by
    rw [Below.heap_alloc _ _ _ (by simp; omega), Below.heap_alloc _ _ _ (by simp)]; exact heap_alloc_new _ _
  have g1 : (((w.alloc (.cells #[.slice An g.nodes.length cn, .slice At g.ties.length ct] 29)).alloc (.cells #[.int .i64 id] 3)).alloc (.cells #[.slice none 0 0, .slice none 0 0] 29)).heap[w.heap.size + 1]? = some (.cells #[.int .i64 id] 3 (0, 0)) := by
    rw [Below.heap_alloc _ _ _ (by simp)]
    have := heap_alloc_new (w.alloc (.cells #[.slice An g.nodes.length cn, .slice At g.ties.length ct] 29)) (.cells #[.int .i64 id] 3); simpa using this
  have g2 : (((w.alloc (.cells #[.slice An g.nodes.length cn, .slice At g.ties.length ct] 29)).alloc (.cells #[.int .i64 id] 3)).alloc (.cells #[.slice none 0 0, .slice none 0 0] 29)).heap[w.heap.size + 1 + 1]? = some (.cells #[.slice none 0 0, .slice none 0 0] 29 (0, 0)) := by
    have := heap_alloc_new ((w.alloc (.cells #[.slice An g.nodes.length cn, .slice At g.ties.length ct] 29)).alloc (.cells #[.int .i64 id] 3)) (.cells #[.slice none 0 0, .slice none 0 0] 29); simpa using this
  have hsz : (((w.alloc (.cells #[.slice An g.nodes.length cn, .slice At g.ties.length ct] 29)).alloc (.cells #[.int .i64 id] 3)).alloc (.cells #[.slice none 0 0, .slice none 0 0] 29)).heap.size = w.heap.size + 3 := by simp
  generalize hW0 : (((w.alloc (.cells #[.slice An g.nodes.length cn, .slice At g.ties.length ct] 29)).alloc (.cells #[.int .i64 id] 3)).alloc (.cells #[.slice none 0 0, .slice none 0 0] 29)) = W0 at *
  have hG0 := hG.below hb0
  have hf := find_any g _ _ W0 hG0.r id hc hn
  have x0 := block_cell g0 0
  have x1 := block_cell g0 1
  have y0 := block_cell g1 0
  have HG := Lib.hid hG0
  have HW0 := Lib.hid hW0
  clear hG hG0
  obtain ⟨E, hE⟩ : ∃ E : Int, E = if fhas g.nodes id then 0 else 5 := ⟨_, rfl⟩
  rw [← hE]
  have HE := Lib.hid hE
  clear hE
  go_enter Try.func80, Try.ntmps80
  go_wp2_with fail
  refine hf.mono ?_
  clear hf
  rintro e w1 ⟨rfl, hb1⟩
  have hB1 := hb0.trans (hb1.mono hb0.size)
  have m0 := (hb1.block _ (Array.getElem?_eq_some_iff.1 g0).1).trans g0
  have m1 := (hb1.block _ (Array.getElem?_eq_some_iff.1 g1).1).trans g1
  have m2 := (hb1.block _ (Array.getElem?_eq_some_iff.1 g2).1).trans g2
  have hG1 := HG.out.below hb1
  have hs1 := hb1.size
  clear g0 g1 g2 x0 x1 y0 HG
  cases hq : fhas g.nodes id with
  | false =>
    have hE : E = 5 := by rw [HE.out, hq]; rfl
    subst hE
    have x0 := block_cell m0 0
    have x1 := block_cell m0 1
    have e0 := block_free m2 0
    have e1 := block_free m2 1
    have e2 := block_cell m2 0
    have e3 := block_cell m2 1
    have k3 := setCell_block (setCell_block m2 0 (.slice An g.nodes.length cn)) 1 (.slice At g.ties.length ct)
    have HM := Lib.hid k3
    clear m0 m1 m2 k3 hq
    go_wp2_with fail
    have k2 := block_cell HM.out 0
    have k3 := block_cell HM.out 1
    exact bodyPost_ret (v := .tuple #[.agg #[.slice An g.nodes.length cn, .slice At g.ties.length ct], .iface 23 (.int .i64 5)]) (by simp [results, Try.results80, go_sem, k2, k3]) rfl
      ⟨_, _, rfl, (fun h => absurd h (by decide)), ⟨_, _, _, _, _, _, rfl, rfl⟩, ((hB1.mono hB).setCell (p := ⟨w.heap.size + 1 + 1, 0, none⟩) (by show B ≤ w.heap.size + 1 + 1; omega) _).setCell (p := ⟨w.heap.size + 1 + 1, 1, none⟩) (by show B ≤ w.heap.size + 1 + 1; omega) _, (((Keep2.below hB1).box (p := ⟨w.heap.size + 1 + 1, 0, none⟩) (by show w.heap.size ≤ w.heap.size + 1 + 1; omega) _).box (p := ⟨w.heap.size + 1 + 1, 1, none⟩) (by show w.heap.size ≤ w.heap.size + 1 + 1; omega) _)⟩
  | true =>
    have hE : E = 0 := by rw [HE.out, hq]; rfl
    subst hE
    obtain ⟨d, hd⟩ := fhas_some' hq
    have hkl := (List.getElem?_eq_some_iff.1 hd).1
    obtain ⟨m, hm⟩ : ∃ m, g.nodes.length = m + 1 := ⟨g.nodes.length - 1, by omega⟩
    have hgn : (goneG g id).nodes = g.nodes.take (fpos g.nodes id) ++ g.nodes.drop (fpos g.nodes id + 1) := rfl
    have hgt : (goneG g id).ties = g.ties.filter fun t => !touch id t := rfl
    have hgl : (goneG g id).nodes.length = m := by rw [goneNods_len hkl, hm]; rfl
    have HGT := Lib.hid hgt
    have HGL := Lib.hid hgl
    clear hgt hgl
    have hKi : ((fpos g.nodes id : Nat) : Int) ≤ 1000 := by omega
    have hn1 := hG1.n
    rw [hm] at hn1
    have hdel := del1_nods w1 B _ m xs hn1 (fpos g.nodes id) (by omega) hG1.o.oneCell (by omega)
    have hdo := hG1.o.drop1 (fpos g.nodes id) hkl
    rw [← hgn] at hdo
    have hx0 := block_cell m0 0
    have hx1 := block_cell m0 1
    have HG1 := Lib.hid hG1
    have M0 := Lib.hid m0
    have M1 := Lib.hid m1
    have M2 := Lib.hid m2
    have HN1 := Lib.hid hn1
    have HDO := Lib.hid hdo
    rw [hm] at hx0 M0
    rw [hm]
    generalize fpos g.nodes id = K at *
    clear m0 m1 m2 hn1 hG1 hd hkl hq hgn hm hdo
    go_wp2_with fail
    refine hdel.mono ?_
    clear hdel
    rintro e w2 ⟨u2, rfl, ho2, hg2, hu2⟩
    have hsame : ∀ T, 33 ≠ T → Same T w1 w2 := fun T hT => Same.grown HN1.out hT hg2
    have n0 := hsame 29 (by decide) _ _ _ M0.out
    have n1 := hsame 3 (by decide) _ _ _ M1.out
    have n2 := hsame 29 (by decide) _ _ _ M2.out
    obtain ⟨A2, c2, rfl, _, _⟩ := ho2.form
    have hsb : ∀ T, 29 ≠ T → Same T w2 (w2.setCell ⟨w.heap.size, 0, none⟩ (.slice A2 m c2)) := fun T hT => Same.setCell (p := ⟨w.heap.size, 0, none⟩) n0 hT _
    have p0 := setCell_block n0 0 (.slice A2 m c2)
    have p1 := hsb 3 (by decide) _ _ _ n1
    have p2 : (w2.setCell ⟨w.heap.size, 0, none⟩ (.slice A2 m c2)).heap[w.heap.size + 1 + 1]? = some (.cells #[.slice none 0 0, .slice none 0 0] 29 (0, 0)) := by rw [Below.heap_setCell _ _ _ _ (by simp; omega)]; exact n2
    have ho3 := ho2.same (hsb _ (by decide))
    have hdo3 := HDO.out.same ((hsame 67 (by decide)).trans (hsb 67 (by decide)))
    have ht3 := HG1.out.t.same ((hsame 35 (by decide)).trans (hsb 35 (by decide)))
    have hB3 : Below B w (w2.setCell ⟨w.heap.size, 0, none⟩ (.slice A2 m c2)) := ((hB1.mono hB).grown hg2 (by omega) (fun j e => (HN1.out.lt j e).1)).setCell (p := ⟨w.heap.size, 0, none⟩) hB _
    have hs3 : (w2.setCell ⟨w.heap.size, 0, none⟩ (.slice A2 m c2)).heap.size = w2.heap.size := by simp [World.setCell]
    have hs2 := hg2.size
    have hK3 : Keep2 w (w2.setCell ⟨w.heap.size, 0, none⟩ (.slice A2 m c2)) (.slice An g.nodes.length cn) (.slice At g.ties.length ct) := ((Keep2.below hB1).grown1' hg2).box (p := ⟨w.heap.size, 0, none⟩) (Nat.le_refl _) _
    have hx2 := block_free n0 0
    have hx3 := block_cell n0 0
    have hx4 := block_cell p0 0
    have hx5 := block_cell p0 1
    have hdt := del_ties_g 119 #[.pointer (some ⟨w.heap.size + 1, 0, none⟩)] (by intro args w; kernel_rfl) (touch id) g.ties _ B (w2.setCell ⟨w.heap.size, 0, none⟩ (.slice A2 m c2)) (by omega) ht3 HG1.out.k ht
      (fun x u wx hgw hu => by
        obtain ⟨rfl, _⟩ := hu
        have := (Same.grown ht3 (by decide) hgw : Same 3 _ _) _ _ _ p1
        exact gone1_any id x (w.heap.size + 1) wx (block_cell this 0))
    rw [← HGT.out] at hdt
    have P0 := Lib.hid p0
    have P2 := Lib.hid p2
    have HO3 := Lib.hid ho3
    have HDO3 := Lib.hid hdo3
    have HT3 := Lib.hid ht3
    clear ho2 ho3 hdo3 n0 n1 n2 p1 p2 hsame hsb ht3 hg2 HN1 HDO
    go_wp2_with fail
    refine hdt.mono ?_
    clear hdt
    rintro e w4 ⟨u4, rfl, ho4, hg4, hu4⟩
    have hs4 := hg4.size
    have hK4 := hK3.grown2 hg4
    have hs34 : ∀ T, 35 ≠ T → Same T (w2.setCell ⟨w.heap.size, 0, none⟩ (.slice A2 m c2)) w4 := fun T hT => Same.grown HT3.out hT hg4
    have n0 := hs34 29 (by decide) _ _ _ P0.out
    have n2 := hs34 29 (by decide) _ _ _ P2.out
    obtain ⟨A4, c4, rfl, _, _⟩ := ho4.form
    have p0 := setCell_block n0 1 (.slice A4 (goneG g id).ties.length c4)
    have p2 : (w4.setCell ⟨w.heap.size, 1, none⟩ (.slice A4 (goneG g id).ties.length c4)).heap[w.heap.size + 1 + 1]? = some (.cells #[.slice none 0 0, .slice none 0 0] 29 (0, 0)) := by rw [Below.heap_setCell _ _ _ _ (by simp; omega)]; exact n2
    have p3 := setCell_block p2 0 (.slice A2 m c2)
    have p4 := setCell_block p3 1 (.slice A4 (goneG g id).ties.length c4)
    have HS : Hid (∀ T, 29 ≠ T → Same T w4 (((w4.setCell ⟨w.heap.size, 1, none⟩ (.slice A4 (goneG g id).ties.length c4)).setCell ⟨w.heap.size + 1 + 1, 0, none⟩ (.slice A2 m c2)).setCell ⟨w.heap.size + 1 + 1, 1, none⟩ (.slice A4 (goneG g id).ties.length c4))) := fun T hT =>
      (Same.setCell (p := ⟨w.heap.size, 1, none⟩) n0 hT _).trans ((Same.setCell (p := ⟨w.heap.size + 1 + 1, 0, none⟩) p2 hT _).trans (Same.setCell (p := ⟨w.heap.size + 1 + 1, 1, none⟩) p3 hT _))
    have HO4 := Lib.hid ho4
    have hB4 : Below B w w4 := hB3.grown hg4 (by omega) (fun j e => (HT3.out.lt j e).1)
    have HFIN : Hid (OwnG (((w4.setCell ⟨w.heap.size, 1, none⟩ (.slice A4 (goneG g id).ties.length c4)).setCell ⟨w.heap.size + 1 + 1, 0, none⟩ (.slice A2 m c2)).setCell ⟨w.heap.size + 1 + 1, 1, none⟩ (.slice A4 (goneG g id).ties.length c4)) B (.slice A2 m c2) (.slice A4 (goneG g id).ties.length c4) (goneG g id) (xs.take (K * 3) ++ xs.drop ((K + 1) * 3))) := by
      refine ⟨?_, HDO3.out.same ((hs34 _ (by decide)).trans (HS.out _ (by decide))), ho4.same (HS.out _ (by decide)), fun x hx => HG1.out.k x ?_⟩
      · rw [HGL.out]; exact (HO3.out.same (hs34 _ (by decide))).same (HS.out _ (by decide))
      · rw [HGT.out] at hx; exact (List.mem_filter.1 hx).1
    have a0 := block_free n0 1
    have a1 := block_cell n0 0
    have a2 := block_cell n0 1
    have a3 := block_cell p0 0
    have a4 := block_cell p0 1
    have a5 := block_free p2 0
    have a6 := block_free p2 1
    have a7 := block_cell p2 0
    have a8 := block_cell p2 1
    have HP4 := Lib.hid p4
    clear ho4 n0 n2 p0 p2 p3 p4 hs34 hg4 HT3 HO3 HDO3
    go_wp2_with fail
    have k2 := block_cell HP4.out 0
    have k3 := block_cell HP4.out 1
    exact bodyPost_ret (v := .tuple #[.agg #[.slice A2 m c2, .slice A4 (goneG g id).ties.length c4], .nilIface]) (by simp [results, Try.results80, go_sem, k2, k3]) rfl
      ⟨_, _, rfl, (fun _ => ⟨_, HFIN.out⟩), ⟨_, _, _, _, _, _, rfl, rfl⟩, ((hB4.setCell (p := ⟨w.heap.size, 1, none⟩) hB _).setCell (p := ⟨w.heap.size + 1 + 1, 0, none⟩) (by show B ≤ w.heap.size + 1 + 1; omega) _).setCell (p := ⟨w.heap.size + 1 + 1, 1, none⟩) (by show B ≤ w.heap.size + 1 + 1; omega) _, (((hK4.box (p := ⟨w.heap.size, 1, none⟩) (Nat.le_refl _) _).box (p := ⟨w.heap.size + 1 + 1, 0, none⟩) (by show w.heap.size ≤ w.heap.size + 1 + 1; omega) _).box (p := ⟨w.heap.size + 1 + 1, 1, none⟩) (by show w.heap.size ≤ w.heap.size + 1 + 1; omega) _)⟩
end Go.Proofs.Ytdfeloeainabjaa
