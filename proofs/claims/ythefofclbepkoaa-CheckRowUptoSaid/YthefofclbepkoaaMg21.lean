/- Parts: GrO, OwnS, Simp. -/
import Derived.Test.YthefofclbepkoaaMg16
import Derived.Test.YthefofclbepkoaaMg14
import Derived.Deep.RegionLaw
import Derived.Test.YthefofclbepkoaaMg20
import Derived.Test.YthefofclbepkoaaMg19
/- Contract: graph.Own. -/
namespace Go.Proofs.Ythefofclbepkoaa
open Go Go.RowKit

theorem Same.cellOf {T e : TypeId} {w : World} {B sz g o n c : Nat} {xs : List Value} (h : Own w B e sz (.slice (some ⟨g, o, none⟩) n c) n xs) (hne : e ≠ T) (j : Nat) (u : Value) : Same T w (w.setCell ⟨g, j, none⟩ u) := by
  rcases h.2 with ⟨h0, _⟩ | ⟨g', o', cap, cur, hv, hb, hg, _⟩
  · cases h0
  · injection hv with e1 _ _
    injection e1 with e1
    injection e1 with e1 e2
    subst e1
    exact Same.setCell (p := ⟨g, j, none⟩) hg hne u
/-- What stands between two rounds: the first k nodes have records of the call's own. -/
structure OwnI (w wr : World) (g : Grf) (xs0 : List Value) (vn vt : Value) (k : Nat) (ys : List Value) : Prop where
  b : Below w.heap.size w wr
  z : w.heap.size + 2 ≤ wr.heap.size
  q : wr.heap[w.heap.size]? = some (.cells #[vn, vt] 43 (0, 0))
  r : wr.heap[w.heap.size + 1]? = some (.cells #[.slice none 0 0, .slice none 0 0] 43 (0, 0))
  n : Own wr w.heap.size 46 3 vn g.nodes.length (ys ++ xs0.drop (k * 3))
  o : OwnNods wr w.heap.size (g.nodes.take k) ys
  t : Own wr w.heap.size 50 3 vt g.ties.length (g.ties.flatMap Tie.enc)
theorem OwnI.step {w wr w2 : World} {g : Grf} {xs0 ys : List Value} {gb o c : Nat} {vt u : Value} {k : Nat} {d : Nod} (h : OwnI w wr g xs0 (.slice (some ⟨gb, o, none⟩) g.nodes.length c) vt k ys) (hd : g.nodes[k]? = some d) (h1 : I64 d.id) (h2 : Sm d.kind)
    (hlen : xs0.length = g.nodes.length * 3) (hb : Below wr.heap.size wr w2) (hu : OwnP w2 wr.heap.size u d.props) :
    OwnI w (((w2.setCell ⟨gb, o + k * 3, none⟩ (.int .i64 d.id)).setCell ⟨gb, o + k * 3 + 1, none⟩ (.string d.kind)).setCell ⟨gb, o + k * 3 + 2, none⟩ u) g xs0 (.slice (some ⟨gb, o, none⟩) g.nodes.length c) vt (k + 1) (ys ++ [.int .i64 d.id, .string d.kind, u]) := by
  have hkl := (List.getElem?_eq_some_iff.1 hd).1
  have hz := h.z
  have hyl := h.o.len
  have hyl' : ys.length = k * 3 := by rw [hyl, List.length_take, Nat.min_eq_left (by omega)]
  have o0 := h.n.below hb
  have o1 := o0.store (k * 3) (by omega) (.int .i64 d.id)
  have o2 := o1.store (k * 3 + 1) (by omega) (.string d.kind)
  have o3 := o2.store (k * 3 + 2) (by omega) u
  have hs : ∀ T, 46 ≠ T → Same T wr (((w2.setCell ⟨gb, o + k * 3, none⟩ (.int .i64 d.id)).setCell ⟨gb, o + k * 3 + 1, none⟩ (.string d.kind)).setCell ⟨gb, o + k * 3 + 2, none⟩ u) := fun T hT =>
    (Same.below hb).trans ((Same.cellOf o0 hT _ _).trans ((Same.cellOf o1 hT _ _).trans (Same.cellOf o2 hT _ _)))
  have hs2 : ∀ T, 46 ≠ T → Same T w2 (((w2.setCell ⟨gb, o + k * 3, none⟩ (.int .i64 d.id)).setCell ⟨gb, o + k * 3 + 1, none⟩ (.string d.kind)).setCell ⟨gb, o + k * 3 + 2, none⟩ u) := fun T hT =>
    (Same.cellOf o0 hT _ _).trans ((Same.cellOf o1 hT _ _).trans (Same.cellOf o2 hT _ _))
  have hgb := (o0.lt gb rfl).1
  have hx : ((((ys ++ xs0.drop (k * 3)).set (k * 3) (.int .i64 d.id)).set (k * 3 + 1) (.string d.kind)).set (k * 3 + 2) u) = ys ++ [.int .i64 d.id, .string d.kind, u] ++ xs0.drop ((k + 1) * 3) := by
    have e : xs0.drop (k * 3) = (xs0.drop (k * 3)).take 3 ++ xs0.drop ((k + 1) * 3) := by
      rw [show (k + 1) * 3 = k * 3 + 3 by omega, ← List.drop_drop, List.take_append_drop]
    have hl3 : ((xs0.drop (k * 3)).take 3).length = 3 := by rw [List.length_take, List.length_drop]; omega
    rw [e]
    generalize (xs0.drop (k * 3)).take 3 = Z at *
    match Z, hl3 with
    | [a, b, c'], _ =>
      have s := setAll_append ys [.int .i64 d.id, .string d.kind, u] ([a, b, c'] ++ xs0.drop ((k + 1) * 3)) 0
      rw [setAll_head [.int .i64 d.id, .string d.kind, u] [a, b, c'] (xs0.drop ((k + 1) * 3)) rfl, Nat.add_zero, hyl'] at s
      rw [List.append_assoc]
      exact s
  rw [hx] at o3
  refine ⟨?_, ?_, hs _ (by decide) _ _ _ h.q, hs _ (by decide) _ _ _ h.r, ?_, ?_, h.t.same (hs _ (by decide))⟩
  · exact (((h.b.trans (hb.mono h.b.size)).setCell (p := ⟨gb, _, none⟩) hgb _).setCell (p := ⟨gb, _, none⟩) hgb _).setCell (p := ⟨gb, _, none⟩) hgb _
  · have := hb.size
    simp [World.setCell]; omega
  · exact o3
  · rw [take_snoc hd]
    exact (h.o.same (hs _ (by decide))).snoc h1 h2 hu.2 ((hu.1.same (hs2 _ (by decide))).mono (by omega))
set_option maxRecDepth 100000 in
set_option maxHeartbeats 8000000 in
theorem own_any (g : Grf) (vn vt : Value) (w : World) (hg : GrfR w vn vt g) (hn : g.nodes.length ≤ 1000) (ht : g.ties.length ≤ 1000) (hp : ∀ d ∈ g.nodes, d.props.length ≤ 1000) :
    Calls Try.prog 34 #[.agg #[vn, vt]] w fun e w' => ∃ un ut xs, e = .returned (.agg #[un, ut]) ∧ OwnG w' w.heap.size un ut g xs ∧ Below w.heap.size w w' := by
  obtain ⟨An, cn, rfl, _, _⟩ := hg.1.form
  obtain ⟨At, ct, rfl, _, _⟩ := hg.2.form
  have hb0 : Below w.heap.size w ((w.alloc (.cells #[.slice An g.nodes.length cn, .slice At g.ties.length ct] 43)).alloc (.cells #[.slice none 0 0, .slice none 0 0] 43)) := ((Below.refl _ _).alloc (Nat.le_refl _) _).alloc (by simp) _
  obtain ⟨xs0, hrow, hx0⟩ := Row.of_sl hg.1
  have hct := clone_ties (hg.2.below hb0) (by omega)
  have g0 : ((w.alloc (.cells #[.slice An g.nodes.length cn, .slice At g.ties.length ct] 43)).alloc (.cells #[.slice none 0 0, .slice none 0 0] 43)).heap[w.heap.size]? = some (.cells #[.slice An g.nodes.length cn, .slice At g.ties.length ct] 43 (0, 0)) := by
    rw [Below.heap_alloc _ _ _ (by simp)]; exact heap_alloc_new _ _
  have g1 : ((w.alloc (.cells #[.slice An g.nodes.length cn, .slice At g.ties.length ct] 43)).alloc (.cells #[.slice none 0 0, .slice none 0 0] 43)).heap[w.heap.size + 1]? = some (.cells #[.slice none 0 0, .slice none 0 0] 43 (0, 0)) := by
    have := heap_alloc_new (w.alloc (.cells #[.slice An g.nodes.length cn, .slice At g.ties.length ct] 43)) (.cells #[.slice none 0 0, .slice none 0 0] 43); simpa using this
  have x0 := block_cell g0 0
  have x1 := block_cell g0 1
  have HX := Lib.hid hx0
  have HROW := Lib.hid hrow
  have hsz : ((w.alloc (.cells #[.slice An g.nodes.length cn, .slice At g.ties.length ct] 43)).alloc (.cells #[.slice none 0 0, .slice none 0 0] 43)).heap.size = w.heap.size + 2 := by simp
  clear hg hrow hx0
  go_enter Try.func34, Try.ntmps34
  go_wp2_with fail
  refine hct.mono ?_
  clear hct
  rintro e w1 ⟨vt, xt, rfl, hot, hrt, hb1⟩
  obtain ⟨rfl, hok⟩ := Row.flat hrt
  have hot := Own.mono (B' := w.heap.size) hot (by rw [hsz]; omega)
  have hB1 := hb0.trans (hb1.mono hb0.size)
  have k0 := (hb1.block _ (Array.getElem?_eq_some_iff.1 g0).1).trans g0
  have k1 := (hb1.block _ (Array.getElem?_eq_some_iff.1 g1).1).trans g1
  have HK := Lib.hid hok
  obtain ⟨At2, ct2, rfl, _, _⟩ := hot.form
  have hs1 := hb1.size
  rw [hsz] at hs1
  have m0 := setCell_block k0 1 (.slice At2 g.ties.length ct2)
  have m1 : (w1.setCell ⟨w.heap.size, 1, none⟩ (.slice At2 g.ties.length ct2)).heap[w.heap.size + 1]? = some (.cells #[.slice none 0 0, .slice none 0 0] 43 (0, 0)) := by rw [Below.heap_setCell _ _ _ _ (by simp)]; exact k1
  have hot2 := hot.same (Same.setCell (T := 50) (p := ⟨w.heap.size, 1, none⟩) k0 (by decide) (.slice At2 g.ties.length ct2))
  have hB2 : Below w.heap.size w (w1.setCell ⟨w.heap.size, 1, none⟩ (.slice At2 g.ties.length ct2)) := hB1.setCell (p := ⟨w.heap.size, 1, none⟩) (Nat.le_refl _) _
  have hcn := clone_nods (A := An) (n := g.nodes.length) (c := cn) (w := w1.setCell ⟨w.heap.size, 1, none⟩ (.slice At2 g.ties.length ct2)) HROW.out.len (HROW.out.oneCell one_nod) (fun hp => by
    obtain ⟨b, o, hA, hy⟩ := HX.out hp
    exact ⟨b, o, hA, fun j u hj => cell_below hB2 (hy j u hj)⟩) (by omega)
  have f0 := block_free k0 1
  have c0 := block_cell k0 1
  have d0 := block_cell m0 0
  have d1 := block_free m0 0
  have d2 := block_cell m0 1
  have M0 := Lib.hid m0
  have M1 := Lib.hid m1
  have HOT := Lib.hid hot2
  have hs2 : (w1.setCell ⟨w.heap.size, 1, none⟩ (.slice At2 g.ties.length ct2)).heap.size = w1.heap.size := by simp [World.setCell]
  clear g0 g1 k0 k1 m0 m1 hot hot2 hrt hok x0 x1 hb1 hB1
  go_wp2_with fail
  refine hcn.mono ?_
  clear hcn
  rintro e w3 ⟨vn, rfl, hon, hb3⟩
  have hon := Own.mono (B' := w.heap.size) hon (by omega)
  have hB3 := hB2.trans (hb3.mono hB2.size)
  have n0 := (hb3.block _ (Array.getElem?_eq_some_iff.1 M0.out).1).trans M0.out
  have n1 := (hb3.block _ (Array.getElem?_eq_some_iff.1 M1.out).1).trans M1.out
  obtain ⟨An2, cn2, rfl, _, _⟩ := hon.form
  have hI0 : OwnI w (w3.setCell ⟨w.heap.size, 0, none⟩ (.slice An2 g.nodes.length cn2)) g xs0 (.slice An2 g.nodes.length cn2) (.slice At2 g.ties.length ct2) 0 [] := by
    have hs : ∀ T, 43 ≠ T → Same T w3 (w3.setCell ⟨w.heap.size, 0, none⟩ (.slice An2 g.nodes.length cn2)) := fun T hT => Same.setCell (p := ⟨w.heap.size, 0, none⟩) n0 hT _
    refine ⟨hB3.setCell (p := ⟨w.heap.size, 0, none⟩) (Nat.le_refl _) _, ?_, ?_, ?_, ?_, rfl, ?_⟩
    · have := hb3.size; simp [World.setCell] at this ⊢; omega
    · have := setCell_block n0 0 (.slice An2 g.nodes.length cn2); simpa using this
    · rw [Below.heap_setCell _ _ _ _ (by simp)]; exact n1
    · rw [Nat.zero_mul, List.drop_zero, List.nil_append]; exact hon.same (hs _ (by decide))
    · exact (HOT.out.below hb3).same (hs _ (by decide))
  have HI0 := Lib.hid hI0
  have e0 := block_cell n0 0
  have e1 := block_free n0 0
  have e2 := block_cell hI0.q 0
  have e3 := block_cell hI0.q 1
  have hn' : (g.nodes.length : Int) ≤ 1000 := by omega
  clear n0 n1 hon hI0 hb3 hB3 hB2 d0 d1 d2 c0 f0
  go_wp2_with fail
  go_loopw [16] (fun i wr => ∃ (k : Nat) (ys : List Value), k ≤ g.nodes.length ∧ i = .int .i64 k ∧ OwnI w wr g xs0 (.slice An2 g.nodes.length cn2) (.slice At2 g.ties.length ct2) k ys) (fun i _ => g.nodes.length - (intOf i).toNat)
  case atStart => exact ⟨0, [], Nat.zero_le _, rfl, HI0.out⟩
  case round =>
    clear HI0 e0 e1 e2 e3
    obtain ⟨k, ys, hk, rfl, hI⟩ := hrel
    have HI := Lib.hid hI
    have y0 := block_cell hI.q 0
    have y1 := block_cell hI.q 1
    have hrz := hI.z
    by_cases hlt : k < g.nodes.length
    · obtain ⟨d, hd⟩ : ∃ d, g.nodes[k]? = some d := ⟨_, List.getElem?_eq_getElem hlt⟩
      have hlt' : (k : Int) < (g.nodes.length : Int) := by omega
      obtain ⟨gb, o, c2, hv, hgb1, hgb2⟩ := hI.n.addr (by omega)
      injection hv with hv1 hv2 hv3
      subst hv1; subst hv3
      obtain ⟨cs, hcs, hcx⟩ := HROW.out.get hd
      obtain ⟨u, rfl, h1, h2, h3⟩ := hcs
      have hyl : ys.length = k * 3 := by rw [hI.o.len, List.length_take, Nat.min_eq_left hk]
      have hat : ∀ j v, [Value.int .i64 d.id, Value.string d.kind, u][j]? = some v → wr.cell? ⟨gb, o + (k * 3 + j), none⟩ = some v := fun j v hj => by
        refine hI.n.cell rfl ?_
        rw [List.getElem?_append_right (by omega), hyl, List.getElem?_drop, show k * 3 + (k * 3 + j - k * 3) = k * 3 + j by omega]
        exact hcx j v hj
      have z0 := hat 0 _ rfl
      have z1 : wr.cell? ⟨gb, o + k * 3 + 1, none⟩ = some (.string d.kind) := hat 1 _ rfl
      have z2 : wr.cell? ⟨gb, o + k * 3 + 2, none⟩ = some u := hat 2 _ rfl
      rw [Nat.add_zero] at z0
      obtain ⟨Au, cu, rfl, _, _⟩ := h3.form
      have hdp := hp d (List.mem_of_getElem? hd)
      have hbx : Below wr.heap.size wr (wr.alloc (.cells #[.int .i64 d.id, .string d.kind, .slice Au d.props.length cu] 46)) := (Below.refl _ _).alloc (Nat.le_refl _) _
      have HSL := Lib.hid ((h3.below hI.b).below hbx)
      have HXL := Lib.hid HROW.out.len
      have hcall := ownNode_any d (.slice Au d.props.length cu) ((wr.alloc (.cells #[.int .i64 d.id, .string d.kind, .slice Au d.props.length cu] 46)).drew) (HSL.out.below (Below.refl _ _).drew) (by omega)
      obtain ⟨b0, b1, b2⟩ := cell_box3 wr (.int .i64 d.id) (.string d.kind) (.slice Au d.props.length cu) 46
      have q0 := cell_below hbx y0
      have q1 := cell_below hbx y1
      have HD := Lib.hid hd
      clear hd hcx hat hI h3
      go_wp2_with fail
      go_region_law
        (first
          | (refine step_callx rfl 61 #[.agg #[.int .i64 d.id, .string d.kind, .slice Au d.props.length cu]] (by kernel_rfl) hcall ?_
             rintro e w2 ⟨u2, rfl, hu, hb2⟩
             refine ⟨_, rfl, ?_⟩
             have hb2' := hbx.drew.trans (hb2.mono hbx.drew.size)
             have p0 := cell_below hb2' y0
             have on2 := HI.out.n.below hb2'
             have z0' := cell_below hb2' z0
             have z1' := cell_below hb2' z1
             have z2' := cell_below hb2' z2
             have f0 := on2.frozen rfl (o + k * 3)
             have f1 := on2.frozen rfl (o + k * 3 + 1)
             have f2 := on2.frozen rfl (o + k * 3 + 2)
             obtain ⟨A2, c3, rfl, _, _⟩ := hu.1.form))
      all_goals
        have hu' : OwnP w2 wr.heap.size (.slice A2 d.props.length c3) d.props := ⟨hu.1.mono hbx.drew.size, hu.2⟩
        have HN := Lib.hid (HI.out.step HD.out h1 h2 HXL.out hb2' hu')
        clear hu hu' on2 z0' z1' z2' f0 f1 f2 p0 q0 q1 b0 b1 b2 z0 z1 z2 y0 y1 hb2 HI
        go_wp2_with fail
        go_roundw
        case rel => exact ⟨k + 1, _, by omega, by go_num, HN.out⟩
        case measure => simp [intOf]; omega
    · obtain rfl : k = g.nodes.length := by omega
      have hF : Hid (∀ W, (∀ T, 43 ≠ T → Same T wr W) → OwnG W w.heap.size (.slice An2 g.nodes.length cn2) (.slice At2 g.ties.length ct2) g ys) := fun W hs => by
        have hn := HI.out.n
        have ho := HI.out.o
        rw [List.drop_of_length_le (by rw [HROW.out.len]; exact Nat.le_refl _), List.append_nil] at hn
        rw [List.take_length] at ho
        exact ⟨hn.same (hs _ (by decide)), ho.same (hs _ (by decide)), HI.out.t.same (hs _ (by decide)), HK.out⟩
      have m1 := hI.r
      have x0 := block_cell m1 0
      have x1 := block_cell m1 1
      have f0 := block_free m1 0
      have f1 := block_free m1 1
      have hb := hI.b
      have m2 := setCell_block m1 0 (.slice An2 g.nodes.length cn2)
      have m3 := setCell_block m2 1 (.slice At2 g.ties.length ct2)
      have HM1 := Lib.hid m1
      have HM2 := Lib.hid m2
      have HM3 := Lib.hid m3
      clear hI m1 m2 m3
      go_wp2_with fail
      have k2 := block_cell HM3.out 0
      have k3 := block_cell HM3.out 1
      exact bodyPost_ret (v := .agg #[.slice An2 g.nodes.length cn2, .slice At2 g.ties.length ct2]) (by simp [results, Try.results34, go_sem, k2, k3]) rfl ⟨_, _, ys, rfl, hF.out _ (fun T hT => (Same.setCell (p := ⟨w.heap.size + 1, 0, none⟩) HM1.out hT _).trans (Same.setCell (p := ⟨w.heap.size + 1, 1, none⟩) HM2.out hT _)),
        (hb.setCell (p := ⟨w.heap.size + 1, 0, none⟩) (by show w.heap.size ≤ w.heap.size + 1; omega) _).setCell (p := ⟨w.heap.size + 1, 1, none⟩) (by show w.heap.size ≤ w.heap.size + 1; omega) _⟩
end Go.Proofs.Ythefofclbepkoaa

/- Contract: index.OwnSchema; schemas that a call owns. -/
namespace Go.Proofs.Ythefofclbepkoaa
open Go Go.RowKit

/-- Kinds of which each one's lists are the call's own. -/
def OwnKnds (w : World) (B : Nat) : List Knd → List Value → Prop
  | [], xs => xs = []
  | d :: l, xs => ∃ u x ys, xs = [.string d.name, u, x] ++ ys ∧ Sm d.name ∧ (∀ p ∈ d.ofs, Sm p) ∧ Own w B 9 1 u d.ofs.length (d.ofs.map Value.string) ∧ (∀ p ∈ d.fields, p.ok) ∧ Own w B 101 4 x d.fields.length (d.fields.flatMap Fld.enc) ∧ OwnKnds w B l ys
theorem OwnKnds.same {w w' : World} {B : Nat} (h1 : Same 9 w w') (h2 : Same 101 w w') : ∀ {l : List Knd} {xs : List Value}, OwnKnds w B l xs → OwnKnds w' B l xs
  | [], _, h => h
  | _ :: _, _, h => by
    obtain ⟨u, x, ys, rfl, a1, a2, a3, a4, a5, a6⟩ := h
    exact ⟨u, x, ys, rfl, a1, a2, a3.same h1, a4, a5.same h2, a6.same h1 h2⟩
theorem OwnKnds.snoc {w : World} {B : Nat} {d : Knd} {u x : Value} (a1 : Sm d.name) (a2 : ∀ p ∈ d.ofs, Sm p) (a3 : Own w B 9 1 u d.ofs.length (d.ofs.map Value.string)) (a4 : ∀ p ∈ d.fields, p.ok) (a5 : Own w B 101 4 x d.fields.length (d.fields.flatMap Fld.enc)) :
    ∀ {l : List Knd} {xs : List Value}, OwnKnds w B l xs → OwnKnds w B (l ++ [d]) (xs ++ [.string d.name, u, x])
  | [], xs, h => by rw [show xs = [] from h]; exact ⟨u, x, [], by simp, a1, a2, a3, a4, a5, rfl⟩
  | e :: l, xs, h => by
    obtain ⟨v, y, ys, rfl, b1, b2, b3, b4, b5, b6⟩ := h
    exact ⟨v, y, ys ++ [.string d.name, u, x], by simp, b1, b2, b3, b4, b5, b6.snoc a1 a2 a3 a4 a5⟩
theorem OwnKnds.len {w : World} {B : Nat} : ∀ {l : List Knd} {xs : List Value}, OwnKnds w B l xs → xs.length = l.length * 3
  | [], xs, h => by rw [show xs = [] from h]; rfl
  | d :: l, xs, h => by
    obtain ⟨u, x, ys, rfl, _, _, _, _, _, h6⟩ := h
    have := h6.len
    simp only [List.length_append, List.length_cons, List.length_nil, this]
    omega
theorem OwnKnds.row {w : World} {B : Nat} : ∀ {l : List Knd} {xs : List Value}, OwnKnds w B l xs → Row kndL w l xs
  | [], _, h => h
  | _ :: _, _, h => by
    obtain ⟨u, x, ys, rfl, a1, a2, a3, a4, a5, a6⟩ := h
    exact ⟨_, ys, rfl, ⟨u, x, rfl, a1, Own.strs a2 a3, a5.flds a4⟩, a6.row⟩
theorem OwnKnds.append {w : World} {B : Nat} : ∀ {l m : List Knd} {xs ys : List Value}, OwnKnds w B l xs → OwnKnds w B m ys → OwnKnds w B (l ++ m) (xs ++ ys)
  | [], m, xs, ys, h, k => by rw [show xs = [] from h]; exact k
  | d :: l, m, xs, ys, h, k => by
    obtain ⟨u, x, zs, rfl, a1, a2, a3, a4, a5, a6⟩ := h
    exact ⟨u, x, zs ++ ys, by simp, a1, a2, a3, a4, a5, a6.append k⟩
/-- No two kinds have their fields in one block. -/
def FDist (xs : List Value) : Prop := ∀ (i j : Nat) (x y : Value) (b : Nat), i < j → xs[i * 3 + 2]? = some x → xs[j * 3 + 2]? = some y → x.ownBlock = some b → y.ownBlock ≠ some b
theorem FDist.nil : FDist [] := fun i j x y b _ h => by simp at h
theorem FDist.snoc {ys : List Value} {k : Nat} {a u x : Value} (h : FDist ys) (hl : ys.length = k * 3) (hn : ∀ (i : Nat) (y : Value) (b : Nat), ys[i * 3 + 2]? = some y → y.ownBlock = some b → x.ownBlock ≠ some b) : FDist (ys ++ [a, u, x]) := by
  intro i j y z b hij hi hj hb
  have hjl : j * 3 + 2 < (ys ++ [a, u, x]).length := (List.getElem?_eq_some_iff.1 hj).1
  rw [List.length_append, hl] at hjl
  simp only [List.length_cons, List.length_nil] at hjl
  have hil : i * 3 + 2 < ys.length := by omega
  rw [List.getElem?_append_left hil] at hi
  by_cases hjk : j < k
  · rw [List.getElem?_append_left (by omega)] at hj
    exact h i j y z b hij hi hj hb
  · obtain rfl : j = k := by omega
    rw [List.getElem?_append_right (by omega), hl, show j * 3 + 2 - j * 3 = 2 by omega] at hj
    simp at hj
    subst hj
    exact hn i y b hi hb
theorem FDist.put {xs : List Value} {k : Nat} {v : Value} (h : FDist xs) (hn : ∀ (i : Nat) (y : Value) (b : Nat), i ≠ k → xs[i * 3 + 2]? = some y → y.ownBlock = some b → v.ownBlock ≠ some b) : FDist (xs.set (k * 3 + 2) v) := by
  intro i j y z b hij hi hj hb
  rw [List.getElem?_set] at hi hj
  by_cases e1 : k = i
  · subst e1
    rw [if_pos rfl] at hi
    rw [if_neg (by omega)] at hj
    split at hi
    · simp at hi; subst hi
      intro hz
      exact hn j z b (by omega) hj hz hb
    · cases hi
  · rw [if_neg (by omega)] at hi
    by_cases e2 : k = j
    · subst e2
      rw [if_pos rfl] at hj
      split at hj
      · simp at hj; subst hj
        exact hn i y b (fun e => e1 e.symm) hi hb
      · cases hj
    · rw [if_neg (by omega)] at hj
      exact h i j y z b hij hi hj hb
theorem OwnKnds.flt {w : World} {B : Nat} : ∀ {l : List Knd} {xs : List Value}, OwnKnds w B l xs → ∀ (i : Nat) (y : Value) (b : Nat), xs[i * 3 + 2]? = some y → y.ownBlock = some b → b < w.heap.size
  | [], xs, h, i, y, b, hi, _ => by rw [show xs = [] from h] at hi; simp at hi
  | e :: l, xs, h, 0, y, b, hi, hb => by
    obtain ⟨u, x, ys, rfl, _, _, _, _, a5, _⟩ := h
    simp at hi
    subst hi
    exact (a5.lt b hb).2
  | e :: l, xs, h, i + 1, y, b, hi, hb => by
    obtain ⟨u, x, ys, rfl, _, _, _, _, _, a6⟩ := h
    rw [show (i + 1) * 3 + 2 = i * 3 + 2 + 1 + 1 + 1 by omega] at hi
    exact OwnKnds.flt a6 i y b hi hb
/-- A schema that is the call's own. -/
structure OwnS (w : World) (B : Nat) (vk vb : Value) (s : Scm) (xs : List Value) : Prop where
  n : Own w B 105 3 vk s.kinds.length xs
  o : OwnKnds w B s.kinds xs
  b : Own w B 107 5 vb s.bonds.length (s.bonds.flatMap Bnd.enc)
  k : ∀ x ∈ s.bonds, x.ok
  d : FDist xs
theorem OwnS.r {w : World} {B : Nat} {vk vb : Value} {s : Scm} {xs : List Value} (h : OwnS w B vk vb s xs) : ScmR w vk vb s := ⟨Own.row (L := kndL) h.n h.o.row, Own.bnds h.b h.k⟩
theorem OwnS.below {w w' : World} {B : Nat} {vk vb : Value} {s : Scm} {xs : List Value} (h : OwnS w B vk vb s xs) (hb : Below w.heap.size w w') : OwnS w' B vk vb s xs := ⟨h.n.below hb, h.o.same (.below hb) (.below hb), h.b.below hb, h.k, h.d⟩
theorem OwnS.same {w w' : World} {B : Nat} {vk vb : Value} {s : Scm} {xs : List Value} (h : OwnS w B vk vb s xs) (h1 : Same 105 w w') (h2 : Same 9 w w') (h3 : Same 101 w w') (h4 : Same 107 w w') : OwnS w' B vk vb s xs :=
  ⟨h.n.same h1, h.o.same h2 h3, h.b.same h4, h.k, h.d⟩
/-- What stands between two rounds: the first k kinds have lists of the call's own. -/
structure OwnSI (w wr : World) (s : Scm) (xs0 : List Value) (vk vb : Value) (k : Nat) (ys : List Value) : Prop where
  b : Below w.heap.size w wr
  z : w.heap.size + 2 ≤ wr.heap.size
  q : wr.heap[w.heap.size]? = some (.cells #[vk, vb] 68 (0, 0))
  r : wr.heap[w.heap.size + 1]? = some (.cells #[.slice none 0 0, .slice none 0 0] 68 (0, 0))
  n : Own wr w.heap.size 105 3 vk s.kinds.length (ys ++ xs0.drop (k * 3))
  o : OwnKnds wr w.heap.size (s.kinds.take k) ys
  t : Own wr w.heap.size 107 5 vb s.bonds.length (s.bonds.flatMap Bnd.enc)
  dd : FDist ys
theorem OwnSI.step {w wr w2 : World} {s : Scm} {xs0 ys : List Value} {gb o c : Nat} {vb u x : Value} {k : Nat} {d : Knd} (h : OwnSI w wr s xs0 (.slice (some ⟨gb, o, none⟩) s.kinds.length c) vb k ys) (hd : s.kinds[k]? = some d) (h1 : Sm d.name)
    (hlen : xs0.length = s.kinds.length * 3) (hx0 : xs0[k * 3]? = some (.string d.name)) (hb : Below wr.heap.size wr w2) (a2 : ∀ p ∈ d.ofs, Sm p) (a3 : Own w2 wr.heap.size 9 1 u d.ofs.length (d.ofs.map Value.string)) (a4 : ∀ p ∈ d.fields, p.ok) (a5 : Own w2 wr.heap.size 101 4 x d.fields.length (d.fields.flatMap Fld.enc)) :
    OwnSI w ((w2.setCell ⟨gb, o + k * 3 + 1, none⟩ u).setCell ⟨gb, o + k * 3 + 2, none⟩ x) s xs0 (.slice (some ⟨gb, o, none⟩) s.kinds.length c) vb (k + 1) (ys ++ [.string d.name, u, x]) := by
  have hkl := (List.getElem?_eq_some_iff.1 hd).1
  have hz := h.z
  have hyl := h.o.len
  have hyl' : ys.length = k * 3 := by rw [hyl, List.length_take, Nat.min_eq_left (by omega)]
  have o0 := h.n.below hb
  have o1 := o0.store (k * 3 + 1) (by omega) u
  have o2 := o1.store (k * 3 + 2) (by omega) x
  have hs2 : ∀ T, 105 ≠ T → Same T w2 ((w2.setCell ⟨gb, o + k * 3 + 1, none⟩ u).setCell ⟨gb, o + k * 3 + 2, none⟩ x) := fun T hT =>
    (Same.cellOf o0 hT _ _).trans (Same.cellOf o1 hT _ _)
  have hs : ∀ T, 105 ≠ T → Same T wr ((w2.setCell ⟨gb, o + k * 3 + 1, none⟩ u).setCell ⟨gb, o + k * 3 + 2, none⟩ x) := fun T hT => (Same.below hb).trans (hs2 T hT)
  have hgb := (o0.lt gb rfl).1
  have hx : (((ys ++ xs0.drop (k * 3)).set (k * 3 + 1) u).set (k * 3 + 2) x) = ys ++ [.string d.name, u, x] ++ xs0.drop ((k + 1) * 3) := by
    have e : xs0.drop (k * 3) = (xs0.drop (k * 3)).take 3 ++ xs0.drop ((k + 1) * 3) := by
      rw [show (k + 1) * 3 = k * 3 + 3 by omega, ← List.drop_drop, List.take_append_drop]
    have hl3 : ((xs0.drop (k * 3)).take 3).length = 3 := by rw [List.length_take, List.length_drop]; omega
    have h0 : ((xs0.drop (k * 3)).take 3)[0]? = some (.string d.name) := by rw [List.getElem?_take]; simp; simpa using hx0
    rw [e]
    generalize (xs0.drop (k * 3)).take 3 = Z at *
    match Z, hl3, h0 with
    | [a, b, c'], _, h0 =>
      obtain rfl : a = .string d.name := by simpa using h0
      have s := setAll_append ys [.string d.name, u, x] ([.string d.name, b, c'] ++ xs0.drop ((k + 1) * 3)) 0
      rw [setAll_head [.string d.name, u, x] [.string d.name, b, c'] (xs0.drop ((k + 1) * 3)) rfl, Nat.add_zero, hyl'] at s
      rw [List.append_assoc, ← s]
      show _ = (((ys ++ ([.string d.name, b, c'] ++ xs0.drop ((k + 1) * 3))).set (k * 3) (.string d.name)).set (k * 3 + 1) u).set (k * 3 + 2) x
      have e0 : (ys ++ ([.string d.name, b, c'] ++ xs0.drop ((k + 1) * 3))).set (k * 3) (.string d.name) = ys ++ ([.string d.name, b, c'] ++ xs0.drop ((k + 1) * 3)) := by
        rw [List.set_append_right (k * 3) (Value.string d.name) (by omega), hyl', Nat.sub_self]
        rfl
      rw [e0]
  rw [hx] at o2
  refine ⟨?_, ?_, hs _ (by decide) _ _ _ h.q, hs _ (by decide) _ _ _ h.r, o2, ?_, h.t.same (hs _ (by decide)), h.dd.snoc hyl' (fun i y b hy hb2 => by
    have h1 := h.o.flt i y b hy hb2
    intro h2
    have := (a5.lt b h2).1
    omega)⟩
  · exact ((h.b.trans (hb.mono h.b.size)).setCell (p := ⟨gb, _, none⟩) hgb _).setCell (p := ⟨gb, _, none⟩) hgb _
  · have := hb.size
    simp [World.setCell]; omega
  · rw [take_snoc hd]
    exact (h.o.same (hs _ (by decide)) (hs _ (by decide))).snoc h1 a2 ((a3.same (hs2 _ (by decide))).mono (by omega)) a4 ((a5.same (hs2 _ (by decide))).mono (by omega))
end Go.Proofs.Ythefofclbepkoaa

/- Contract: kinlaw4.simple. No condition. -/
namespace Go.Proofs.Ythefofclbepkoaa
open Go Go.RowKit

def simpS (mx : Int) : Scm := ⟨[⟨⟨#[97]⟩, [], [⟨⟨#[107]⟩, 1, true, true⟩]⟩], [⟨⟨#[112]⟩, ⟨#[97]⟩, ⟨#[97]⟩, 0, mx⟩]⟩
/-- The blocks of the simple schema. -/
theorem simp_read {W : World} {mx : Int} {f k p : Nat} (hmx : I64 mx) (h1 : W.heap[f]? = some (.cells #[.string ⟨#[107]⟩, .int .i64 1, .bool true, .bool true] 101 (0, 0)))
    (h2 : W.heap[k]? = some (.cells #[.string ⟨#[97]⟩, .slice none 0 0, .slice (some ⟨f, 0, none⟩) 1 1] 105 (0, 0)))
    (h3 : W.heap[p]? = some (.cells #[.string ⟨#[112]⟩, .string ⟨#[97]⟩, .string ⟨#[97]⟩, .int .i64 0, .int .i64 mx] 107 (0, 0))) :
    ScmR W (.slice (some ⟨k, 0, none⟩) 1 1) (.slice (some ⟨p, 0, none⟩) 1 1) (simpS mx) := by
  have hm : Sm ⟨#[97]⟩ ∧ Sm ⟨#[107]⟩ ∧ Sm ⟨#[112]⟩ := ⟨by show 1 ≤ 1048576; omega, by show 1 ≤ 1048576; omega, by show 1 ≤ 1048576; omega⟩
  have hf : Sl fldL W (.slice (some ⟨f, 0, none⟩) 1 1) [⟨⟨#[107]⟩, 1, true, true⟩] := sl_block (t := 101) (fr := (0, 0)) Fld.enc_len [⟨⟨#[107]⟩, 1, true, true⟩] (fun x hx => by simp at hx; subst hx; exact ⟨hm.2.1, by show I64 (1 : Int); unfold I64; omega⟩) 1 (by simp) (by simp [maxLen]) h1
  constructor
  · refine ⟨_, 1, rfl, Nat.le_refl _, by simp [maxLen], fun i d hi => ?_⟩
    match i, hi with
    | 0, hi =>
      injection hi with e; subst e
      refine ⟨_, 0, [.string ⟨#[97]⟩, .slice none 0 0, .slice (some ⟨f, 0, none⟩) 1 1], rfl, ⟨_, _, rfl, hm.1, Sl.nil 0 (Nat.zero_le _) none, hf⟩, fun j u hj => ?_⟩
      rw [block_cell h2]
      simpa using hj
    | i + 1, hi => simp [simpS] at hi
  · exact sl_block (t := 107) (fr := (0, 0)) Bnd.enc_len [⟨⟨#[112]⟩, ⟨#[97]⟩, ⟨#[97]⟩, 0, mx⟩] (fun x hx => by simp at hx; subst hx; exact ⟨hm.2.2, hm.1, hm.1, by show I64 (0 : Int); unfold I64; omega, hmx⟩) 1 (by simp) (by simp [maxLen]) h3
set_option maxHeartbeats 1000000 in
theorem simple_any (mx : Int) (w : World) (hmx : I64 mx) :
    Calls Try.prog 19 #[.int .i64 mx] w fun e w' => ∃ vk vb, e = .returned (.agg #[vk, vb]) ∧ ScmR w' vk vb (simpS mx) ∧ Below w.heap.size w w' := by
  go_enter Try.func19, Try.ntmps19
  go_wp2_with fail
  have hb1 : Below w.heap.size w ((((w.alloc (.cells #[.slice (some ⟨w.heap.size + 1 + 1, 0, none⟩) 1 1, .slice (some ⟨w.heap.size + 1 + 1 + 1, 0, none⟩) 1 1] 68)).alloc
    (.cells #[.string ⟨#[107]⟩, .int .i64 1, .bool true, .bool true] 101)).alloc (.cells #[.string ⟨#[97]⟩, .slice none 0 0, .slice (some ⟨w.heap.size + 1, 0, none⟩) 1 1] 105)).alloc
    (.cells #[.string ⟨#[112]⟩, .string ⟨#[97]⟩, .string ⟨#[97]⟩, .int .i64 0, .int .i64 mx] 107)) := ((((Below.refl _ _).alloc (Nat.le_refl _) _).alloc (by simp) _).alloc (by simp; omega) _).alloc (by simp; omega) _
  have h1 := heap_alloc_new (w.alloc (.cells #[.slice (some ⟨w.heap.size + 1 + 1, 0, none⟩) 1 1, .slice (some ⟨w.heap.size + 1 + 1 + 1, 0, none⟩) 1 1] 68)) (.cells #[.string ⟨#[107]⟩, .int .i64 1, .bool true, .bool true] 101)
  have h2 := heap_alloc_new ((w.alloc (.cells #[.slice (some ⟨w.heap.size + 1 + 1, 0, none⟩) 1 1, .slice (some ⟨w.heap.size + 1 + 1 + 1, 0, none⟩) 1 1] 68)).alloc (.cells #[.string ⟨#[107]⟩, .int .i64 1, .bool true, .bool true] 101))
    (.cells #[.string ⟨#[97]⟩, .slice none 0 0, .slice (some ⟨w.heap.size + 1, 0, none⟩) 1 1] 105)
  have h3 := heap_alloc_new (((w.alloc (.cells #[.slice (some ⟨w.heap.size + 1 + 1, 0, none⟩) 1 1, .slice (some ⟨w.heap.size + 1 + 1 + 1, 0, none⟩) 1 1] 68)).alloc (.cells #[.string ⟨#[107]⟩, .int .i64 1, .bool true, .bool true] 101)).alloc
    (.cells #[.string ⟨#[97]⟩, .slice none 0 0, .slice (some ⟨w.heap.size + 1, 0, none⟩) 1 1] 105)) (.cells #[.string ⟨#[112]⟩, .string ⟨#[97]⟩, .string ⟨#[97]⟩, .int .i64 0, .int .i64 mx] 107)
  have z0 := heap_alloc_new w (.cells #[.slice (some ⟨w.heap.size + 1 + 1, 0, none⟩) 1 1, .slice (some ⟨w.heap.size + 1 + 1 + 1, 0, none⟩) 1 1] 68)
  simp only [World.size_alloc] at h1 h2 h3
  have h1' := (Below.heap_alloc _ (.cells #[.string ⟨#[112]⟩, .string ⟨#[97]⟩, .string ⟨#[97]⟩, .int .i64 0, .int .i64 mx] 107) _ (by simp)).trans ((Below.heap_alloc _ (.cells #[.string ⟨#[97]⟩, .slice none 0 0, .slice (some ⟨w.heap.size + 1, 0, none⟩) 1 1] 105) _ (by simp)).trans h1)
  have h2' := (Below.heap_alloc _ (.cells #[.string ⟨#[112]⟩, .string ⟨#[97]⟩, .string ⟨#[97]⟩, .int .i64 0, .int .i64 mx] 107) _ (by simp)).trans h2
  have z1 := (Below.heap_alloc _ (.cells #[.string ⟨#[112]⟩, .string ⟨#[97]⟩, .string ⟨#[97]⟩, .int .i64 0, .int .i64 mx] 107) _ (by simp only [World.size_alloc]; omega)).trans ((Below.heap_alloc _ (.cells #[.string ⟨#[97]⟩, .slice none 0 0, .slice (some ⟨w.heap.size + 1, 0, none⟩) 1 1] 105) _ (by simp only [World.size_alloc]; omega)).trans ((Below.heap_alloc _ (.cells #[.string ⟨#[107]⟩, .int .i64 1, .bool true, .bool true] 101) _ (by simp only [World.size_alloc]; omega)).trans z0))
  have k0 := block_cell z1 0
  have k1 := block_cell z1 1
  exact bodyPost_ret (v := .agg #[.slice (some ⟨w.heap.size + 1 + 1, 0, none⟩) 1 1, .slice (some ⟨w.heap.size + 1 + 1 + 1, 0, none⟩) 1 1]) (by simp [results, Try.results19, go_sem, k0, k1]) rfl
    ⟨_, _, rfl, simp_read hmx h1' h2' h3, hb1⟩
end Go.Proofs.Ythefofclbepkoaa
