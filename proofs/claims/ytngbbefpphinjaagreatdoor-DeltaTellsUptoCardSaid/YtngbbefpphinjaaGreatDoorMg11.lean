/- Parts: DelBorn, DelChg, RecU. -/
import Derived.Test.YtngbbefpphinjaaGreatDoorMg09
import Derived.Test.YtngbbefpphinjaaGreatDoorMg10
/- Contract: delta.born. -/
namespace Go.Proofs.YtngbbefpphinjaaGreatDoor
open Go Go.RowKit

theorem nod_rec' {n : Nod} (h : nodE n = 0) : recE n.props = 0 := by
  unfold nodE at h
  split at h
  · omega
  · split at h
    · exact h
    · rename_i h2; exact absurd h h2
set_option maxRecDepth 100000 in
set_option maxHeartbeats 8000000 in
theorem born_any (g : Grf) (n : Nod) (vn vt vr : Value) (xs : List Value) (B : Nat) (w : World) (hB : B ≤ w.heap.size) (hG : OwnG w B vn vt g xs) (hc : chain nodLt g.nodes = true) (hn : g.nodes.length ≤ 1000)
    (hr : Sl prpL w vr n.props) (hk : Sm n.kind) (hi : I64 n.id) :
    Calls Tryz.prog 100 #[.agg #[vn, vt], .agg #[.int .i64 n.id, .string n.kind, vr]] w (RetOG B vn vt (bornG g n) (bornE g n) w) := by
  obtain ⟨An, cn, rfl, _, _⟩ := hG.n.form
  obtain ⟨At, ct, rfl, _, _⟩ := hG.t.form
  obtain ⟨Ar, cr, rfl, _, _⟩ := hr.form
  have hb0 : Below w.heap.size w (((w.alloc (.cells #[.slice An g.nodes.length cn, .slice At g.ties.length ct] 25)).alloc (.cells #[.int .i64 n.id, .string n.kind, .slice Ar n.props.length cr] 29)).alloc (.cells #[.slice none 0 0, .slice none 0 0] 25)) := (((Below.refl _ _).alloc (Nat.le_refl _) _).alloc (by simp) _).alloc (by simp; omega) _
  have g0 : (((w.alloc (.cells #[.slice An g.nodes.length cn, .slice At g.ties.length ct] 25)).alloc (.cells #[.int .i64 n.id, .string n.kind, .slice Ar n.props.length cr] 29)).alloc (.cells #[.slice none 0 0, .slice none 0 0] 25)).heap[w.heap.size]? = some (.cells #[.slice An g.nodes.length cn, .slice At g.ties.length ct] 25 (0, 0)) := by
    rw [Below.heap_alloc _ _ _ (by simp; omega), Below.heap_alloc _ _ _ (by simp)]; exact heap_alloc_new _ _
  have g1 : (((w.alloc (.cells #[.slice An g.nodes.length cn, .slice At g.ties.length ct] 25)).alloc (.cells #[.int .i64 n.id, .string n.kind, .slice Ar n.props.length cr] 29)).alloc (.cells #[.slice none 0 0, .slice none 0 0] 25)).heap[w.heap.size + 1]? = some (.cells #[.int .i64 n.id, .string n.kind, .slice Ar n.props.length cr] 29 (0, 0)) := by
    rw [Below.heap_alloc _ _ _ (by simp)]
    have := heap_alloc_new (w.alloc (.cells #[.slice An g.nodes.length cn, .slice At g.ties.length ct] 25)) (.cells #[.int .i64 n.id, .string n.kind, .slice Ar n.props.length cr] 29); simpa using this
  have g2 : (((w.alloc (.cells #[.slice An g.nodes.length cn, .slice At g.ties.length ct] 25)).alloc (.cells #[.int .i64 n.id, .string n.kind, .slice Ar n.props.length cr] 29)).alloc (.cells #[.slice none 0 0, .slice none 0 0] 25)).heap[w.heap.size + 1 + 1]? = some (.cells #[.slice none 0 0, .slice none 0 0] 25 (0, 0)) := by
    have := heap_alloc_new ((w.alloc (.cells #[.slice An g.nodes.length cn, .slice At g.ties.length ct] 25)).alloc (.cells #[.int .i64 n.id, .string n.kind, .slice Ar n.props.length cr] 29)) (.cells #[.slice none 0 0, .slice none 0 0] 25); simpa using this
  have hsz : (((w.alloc (.cells #[.slice An g.nodes.length cn, .slice At g.ties.length ct] 25)).alloc (.cells #[.int .i64 n.id, .string n.kind, .slice Ar n.props.length cr] 29)).alloc (.cells #[.slice none 0 0, .slice none 0 0] 25)).heap.size = w.heap.size + 3 := by simp
  generalize hW0 : (((w.alloc (.cells #[.slice An g.nodes.length cn, .slice At g.ties.length ct] 25)).alloc (.cells #[.int .i64 n.id, .string n.kind, .slice Ar n.props.length cr] 29)).alloc (.cells #[.slice none 0 0, .slice none 0 0] 25)) = W0 at *
  have hG0 := hG.below hb0
  have hon := ofNode_any n _ W0 hk (hr.below hb0)
  have x0 := block_cell g0 0
  have x1 := block_cell g0 1
  have y0 := block_cell g1 0
  have y1 := block_cell g1 1
  have y2 := block_cell g1 2
  have HR := Lib.hid (hr.below hb0)
  have HG := Lib.hid hG0
  have HW0 := Lib.hid hW0
  clear hG hG0 hr
  obtain ⟨E, hE⟩ : ∃ E : Int, E = bornE g n := ⟨_, rfl⟩
  rw [← hE]
  have HE : Hid (E = if nodE n = 0 then (if fhas g.nodes n.id then 7 else if 60 ≤ g.nodes.length then 4 else 0) else nodE n) := hE
  clear hE
  go_enter Tryz.func100, Tryz.ntmps100
  go_wp2_with fail
  refine hon.mono ?_
  clear hon
  rintro e w1 ⟨rfl, hb1⟩
  have hB1 := hb0.trans (hb1.mono hb0.size)
  have m0 := (hb1.block _ (Array.getElem?_eq_some_iff.1 g0).1).trans g0
  have m1 := (hb1.block _ (Array.getElem?_eq_some_iff.1 g1).1).trans g1
  have m2 := (hb1.block _ (Array.getElem?_eq_some_iff.1 g2).1).trans g2
  have hG1 := HG.out.below hb1
  have hs1 := hb1.size
  clear g0 g1 g2 x0 x1 y0 y1 y2 HG
  by_cases he : nodE n = 0
  case neg =>
    have HEE : Hid (errV E = .iface 122 (.int .i64 (nodE n))) := by unfold Hid; rw [HE.out, if_neg he]; exact errV_some he
    have HNE : Hid (¬ E = 0) := by unfold Hid; rw [HE.out, if_neg he]; exact he
    rw [errV_some he]
    clear HE he
    have x0 := block_cell m0 0
    have x1 := block_cell m0 1
    have e0 := block_free m2 0
    have e1 := block_free m2 1
    have e2 := block_cell m2 0
    have e3 := block_cell m2 1
    have k3 := setCell_block (setCell_block m2 0 (.slice An g.nodes.length cn)) 1 (.slice At g.ties.length ct)
    have HM := Lib.hid k3
    clear m0 m1 m2 k3 hG1
    go_wp2_with fail
    have k2 := block_cell HM.out 0
    have k3 := block_cell HM.out 1
    exact bodyPost_ret (v := .tuple #[.agg #[.slice An g.nodes.length cn, .slice At g.ties.length ct], .iface 122 (.int .i64 (nodE n))]) (by simp [results, Tryz.results100, go_sem, k2, k3]) rfl
      ⟨.slice An g.nodes.length cn, .slice At g.ties.length ct, by simp only [HEE.out], (fun h => absurd h HNE.out), ⟨_, _, _, _, _, _, rfl, rfl⟩, ((hB1.mono hB).setCell (p := ⟨w.heap.size + 1 + 1, 0, none⟩) (by show B ≤ w.heap.size + 1 + 1; omega) _).setCell (p := ⟨w.heap.size + 1 + 1, 1, none⟩) (by show B ≤ w.heap.size + 1 + 1; omega) _, (((Keep2.below hB1).box (p := ⟨w.heap.size + 1 + 1, 0, none⟩) (by show w.heap.size ≤ w.heap.size + 1 + 1; omega) _).box (p := ⟨w.heap.size + 1 + 1, 1, none⟩) (by show w.heap.size ≤ w.heap.size + 1 + 1; omega) _)⟩
  have HE3 : Hid (E = if fhas g.nodes n.id then 7 else if 60 ≤ g.nodes.length then 4 else 0) := by unfold Hid; rw [HE.out, if_pos he]
  have hrec := (rec_ok (nod_rec' he)).1
  have hsm := HR.out.below hb1
  rw [errV_zero he]
  have hf := find_any g _ _ w1 hG1.r n.id hc hn
  have HR1 := Lib.hid hsm
  have x0 := block_cell m0 0
  have x1 := block_cell m0 1
  have y0 := block_cell m1 0
  have hKl : fpos g.nodes n.id ≤ g.nodes.length := lowI_le _ _
  have HBG : Hid (bornG g n = ⟨g.nodes.take (fpos g.nodes n.id) ++ n :: g.nodes.drop (fpos g.nodes n.id), g.ties⟩) := rfl
  generalize fhas g.nodes n.id = q at *
  generalize fpos g.nodes n.id = K at *
  clear HE he HR hb1 hsm
  go_wp2_with fail
  refine hf.mono ?_
  clear hf
  rintro e w1b ⟨rfl, hb1b⟩
  have hB1' := hB1.trans (hb1b.mono hB1.size)
  have m0' := (hb1b.block _ (Array.getElem?_eq_some_iff.1 m0).1).trans m0
  have m1' := (hb1b.block _ (Array.getElem?_eq_some_iff.1 m1).1).trans m1
  have m2' := (hb1b.block _ (Array.getElem?_eq_some_iff.1 m2).1).trans m2
  have hG1' := hG1.below hb1b
  have hs1' := hb1b.size
  have HR2 := Lib.hid (HR1.out.below hb1b)
  clear hB1 m0 m1 m2 hG1 hb1b x0 x1 y0 HR1
  have hB1 := hB1'
  have m0 := m0'
  have m1 := m1'
  have m2 := m2'
  have hG1 := hG1'
  clear hB1' m0' m1' m2' hG1'
  cases q with
  | true =>
    have hE : E = 7 := by rw [HE3.out]; rfl
    have HEE : Hid (errV E = .iface 122 (.int .i64 7)) := by unfold Hid; rw [hE]; rfl
    clear HE3
    have x0 := block_cell m0 0
    have x1 := block_cell m0 1
    have e0 := block_free m2 0
    have e1 := block_free m2 1
    have e2 := block_cell m2 0
    have e3 := block_cell m2 1
    have k3 := setCell_block (setCell_block m2 0 (.slice An g.nodes.length cn)) 1 (.slice At g.ties.length ct)
    have HM := Lib.hid k3
    clear m0 m1 m2 k3 hG1
    go_wp2_with fail
    have k2 := block_cell HM.out 0
    have k3 := block_cell HM.out 1
    exact bodyPost_ret (v := .tuple #[.agg #[.slice An g.nodes.length cn, .slice At g.ties.length ct], .iface 122 (.int .i64 7)]) (by simp [results, Tryz.results100, go_sem, k2, k3]) rfl
      ⟨.slice An g.nodes.length cn, .slice At g.ties.length ct, by simp only [HEE.out], (fun h => absurd h (by omega)), ⟨_, _, _, _, _, _, rfl, rfl⟩, ((hB1.mono hB).setCell (p := ⟨w.heap.size + 1 + 1, 0, none⟩) (by show B ≤ w.heap.size + 1 + 1; omega) _).setCell (p := ⟨w.heap.size + 1 + 1, 1, none⟩) (by show B ≤ w.heap.size + 1 + 1; omega) _, (((Keep2.below hB1).box (p := ⟨w.heap.size + 1 + 1, 0, none⟩) (by show w.heap.size ≤ w.heap.size + 1 + 1; omega) _).box (p := ⟨w.heap.size + 1 + 1, 1, none⟩) (by show w.heap.size ≤ w.heap.size + 1 + 1; omega) _)⟩
  | false =>
    by_cases hf : 60 ≤ g.nodes.length
    · have hE : E = 4 := by rw [HE3.out, if_neg (by simp), if_pos hf]
      have HEE : Hid (errV E = .iface 122 (.int .i64 4)) := by unfold Hid; rw [hE]; rfl
      have hf' : (60 : Int) ≤ (g.nodes.length : Int) := by omega
      clear HE3
      have x0 := block_cell m0 0
      have x1 := block_cell m0 1
      have e0 := block_free m2 0
      have e1 := block_free m2 1
      have e2 := block_cell m2 0
      have e3 := block_cell m2 1
      have k3 := setCell_block (setCell_block m2 0 (.slice An g.nodes.length cn)) 1 (.slice At g.ties.length ct)
      have HM := Lib.hid k3
      clear m0 m1 m2 k3 hG1
      go_wp2_with fail
      have k2 := block_cell HM.out 0
      have k3 := block_cell HM.out 1
      exact bodyPost_ret (v := .tuple #[.agg #[.slice An g.nodes.length cn, .slice At g.ties.length ct], .iface 122 (.int .i64 4)]) (by simp [results, Tryz.results100, go_sem, k2, k3]) rfl
        ⟨.slice An g.nodes.length cn, .slice At g.ties.length ct, by simp only [HEE.out], (fun h => absurd h (by omega)), ⟨_, _, _, _, _, _, rfl, rfl⟩, ((hB1.mono hB).setCell (p := ⟨w.heap.size + 1 + 1, 0, none⟩) (by show B ≤ w.heap.size + 1 + 1; omega) _).setCell (p := ⟨w.heap.size + 1 + 1, 1, none⟩) (by show B ≤ w.heap.size + 1 + 1; omega) _, (((Keep2.below hB1).box (p := ⟨w.heap.size + 1 + 1, 0, none⟩) (by show w.heap.size ≤ w.heap.size + 1 + 1; omega) _).box (p := ⟨w.heap.size + 1 + 1, 1, none⟩) (by show w.heap.size ≤ w.heap.size + 1 + 1; omega) _)⟩
    · have hE : E = 0 := by rw [HE3.out, if_neg (by simp), if_neg hf]
      have HER : Hid (errV E = .nilIface) := by unfold Hid; rw [hE]; rfl
      have hf' : (g.nodes.length : Int) < 60 := by omega
      clear HE3 hE
      have x0 := block_cell m0 0
      have x1 := block_cell m0 1
      have y0 := block_cell m1 0
      have y1 := block_cell m1 1
      have y2 := block_cell m1 2
      have hcall := ownNode_any n (.slice Ar n.props.length cr) w1b.drew (HR2.out.below (Below.refl _ _).drew) (by omega)
      have HG1 := Lib.hid hG1
      have M0 := Lib.hid m0
      have M2 := Lib.hid m2
      clear m0 m1 m2 hG1
      go_wp2_with fail
      go_region_law
        (first
          | (refine step_callx rfl 110 #[.agg #[.int .i64 n.id, .string n.kind, .slice Ar n.props.length cr]] (by kernel_rfl) hcall ?_
             rintro e w2 ⟨u2, rfl, hu, hb2⟩
             refine ⟨_, rfl, ?_⟩
             have hb2' := (Below.refl w1b.heap.size w1b).drew.trans hb2
             have p0 := cell_below hb2' x0
             obtain ⟨A2, c3, rfl, _, _⟩ := hu.1.form
             have hbx : Below w2.heap.size w2 (w2.alloc (.cells #[.int .i64 n.id, .string n.kind, .slice A2 n.props.length c3] 29)) := (Below.refl _ _).alloc (Nat.le_refl _) _
             have hG2 := (HG1.out.below hb2').below hbx
             have hil := ins_nod (w2.alloc (.cells #[.int .i64 n.id, .string n.kind, .slice A2 n.props.length c3] 29)) B (.slice An g.nodes.length cn) g.nodes.length xs hG2.n K hKl w2.heap.size [.int .i64 n.id, .string n.kind, .slice A2 n.props.length c3] rfl (heap_alloc_new _ _) (fun u hu => by simp at hu; rcases hu with rfl | rfl | rfl <;> rfl) hG2.o.oneCell
               (fun e => by have := ((HG1.out.below hb2').n.lt _ e).2; omega) (by have := hb2'.size; simp; omega) (by omega)
             have p0x := cell_below hbx p0)
          | (refine step_callx rfl 153 #[.slice An g.nodes.length cn, .int .i64 K, .slice (some ⟨w2.heap.size, 0, none⟩) 1 1] (by kernel_rfl) hil ?_
             rintro e w3 ⟨u3, rfl, ho3, hg3⟩
             refine ⟨_, rfl, ?_⟩
             have hsame : ∀ T, 29 ≠ T → Same T w1b w3 := fun T hT => (Same.below (hb2'.trans (hbx.mono hb2'.size))).trans (Same.grown hG2.n hT hg3)
             have n0 := hsame 25 (by decide) _ _ _ M0.out
             have a0 := block_free n0 0
             have a1 := block_cell n0 0
             have a2 := block_cell n0 1
             obtain ⟨A4, c4, rfl, _, _⟩ := ho3.form))
      all_goals
        have n2 := hsame 25 (by decide) _ _ _ M2.out
        have p0 := setCell_block n0 0 (.slice A4 (g.nodes.length + 1) c4)
        have p2 : (w3.setCell ⟨w.heap.size, 0, none⟩ (.slice A4 (g.nodes.length + 1) c4)).heap[w.heap.size + 1 + 1]? = some (.cells #[.slice none 0 0, .slice none 0 0] 25 (0, 0)) := by rw [Below.heap_setCell _ _ _ _ (by simp; omega)]; exact n2
        have p3 := setCell_block p2 0 (.slice A4 (g.nodes.length + 1) c4)
        have p4 := setCell_block p3 1 (.slice At g.ties.length ct)
        have HS : Hid (∀ T, 25 ≠ T → Same T w3 (((w3.setCell ⟨w.heap.size, 0, none⟩ (.slice A4 (g.nodes.length + 1) c4)).setCell ⟨w.heap.size + 1 + 1, 0, none⟩ (.slice A4 (g.nodes.length + 1) c4)).setCell ⟨w.heap.size + 1 + 1, 1, none⟩ (.slice At g.ties.length ct))) := fun T hT =>
          (Same.setCell (p := ⟨w.heap.size, 0, none⟩) n0 hT _).trans ((Same.setCell (p := ⟨w.heap.size + 1 + 1, 0, none⟩) p2 hT _).trans (Same.setCell (p := ⟨w.heap.size + 1 + 1, 1, none⟩) p3 hT _))
        have hs2 := hb2'.size
        have hs3 := hg3.size
        have hs2x : (w2.alloc (.cells #[.int .i64 n.id, .string n.kind, .slice A2 n.props.length c3] 29)).heap.size = w2.heap.size + 1 := by simp
        have hu4 : Own (w2.alloc (.cells #[.int .i64 n.id, .string n.kind, .slice A2 n.props.length c3] 29)) B 33 4 (.slice A2 n.props.length c3) n.props.length (n.props.flatMap Prp.enc) := (hu.1.mono (by have : w1b.drew.heap.size = w1b.heap.size := rfl; omega)).below hbx
        have hon : OwnNods (w2.alloc (.cells #[.int .i64 n.id, .string n.kind, .slice A2 n.props.length c3] 29)) B (g.nodes.take K ++ n :: g.nodes.drop K) (xs.take (K * 3) ++ [.int .i64 n.id, .string n.kind, .slice A2 n.props.length c3] ++ xs.drop (K * 3)) := hG2.o.insert K hKl hi hk hu.2 hu4
        have HFIN : Hid (OwnG (((w3.setCell ⟨w.heap.size, 0, none⟩ (.slice A4 (g.nodes.length + 1) c4)).setCell ⟨w.heap.size + 1 + 1, 0, none⟩ (.slice A4 (g.nodes.length + 1) c4)).setCell ⟨w.heap.size + 1 + 1, 1, none⟩ (.slice At g.ties.length ct)) B (.slice A4 (g.nodes.length + 1) c4) (.slice At g.ties.length ct) (bornG g n) (xs.take (K * 3) ++ [.int .i64 n.id, .string n.kind, .slice A2 n.props.length c3] ++ xs.drop (K * 3))) := by
          rw [HBG.out]
          refine ⟨?_, (hon.same (Same.grown hG2.n (by decide) hg3)).same (HS.out _ (by decide)), ((HG1.out.t.same (hsame _ (by decide))).same (HS.out _ (by decide))), HG1.out.k⟩
          have hl : (g.nodes.take K ++ n :: g.nodes.drop K).length = g.nodes.length + 1 := by simp; omega
          show Own _ B 29 3 _ (g.nodes.take K ++ n :: g.nodes.drop K).length _
          rw [hl]
          exact ho3.same (HS.out _ (by decide))
        have hK3 : Keep2 w w3 (.slice An g.nodes.length cn) (.slice At g.ties.length ct) := ((Keep2.below hB1).then (hb2'.trans (hbx.mono hb2'.size))).grown1 hg3
        have hB3 : Below B w w3 := ((hB1.mono hB).trans ((hb2'.trans (hbx.mono hb2'.size)).mono (by omega))).grown hg3 (by omega) (fun j e => (hG2.n.lt j e).1)
        have a3 := block_cell p0 0
        have a4 := block_cell p0 1
        have a5 := block_free p2 0
        have a6 := block_free p2 1
        have a7 := block_cell p2 0
        have a8 := block_cell p2 1
        have HP4 := Lib.hid p4
        clear ho3 hil n0 n2 p0 p2 p3 p4 hsame hg3 hG2 hu hu4 hon a0 a1 a2 p0x x0 x1 y0 y1 y2
        go_wp2_with fail
        have k2 := block_cell HP4.out 0
        have k3 := block_cell HP4.out 1
        exact bodyPost_ret (v := .tuple #[.agg #[.slice A4 (g.nodes.length + 1) c4, .slice At g.ties.length ct], .nilIface]) (by simp [results, Tryz.results100, go_sem, k2, k3]) rfl
          ⟨.slice A4 (g.nodes.length + 1) c4, .slice At g.ties.length ct, by simp only [HER.out], (fun _ => ⟨_, HFIN.out⟩), ⟨_, _, _, _, _, _, rfl, rfl⟩, ((hB3.setCell (p := ⟨w.heap.size, 0, none⟩) hB _).setCell (p := ⟨w.heap.size + 1 + 1, 0, none⟩) (by show B ≤ w.heap.size + 1 + 1; omega) _).setCell (p := ⟨w.heap.size + 1 + 1, 1, none⟩) (by show B ≤ w.heap.size + 1 + 1; omega) _, (((hK3.box (p := ⟨w.heap.size, 0, none⟩) (Nat.le_refl _) _).box (p := ⟨w.heap.size + 1 + 1, 0, none⟩) (by show w.heap.size ≤ w.heap.size + 1 + 1; omega) _).box (p := ⟨w.heap.size + 1 + 1, 1, none⟩) (by show w.heap.size ≤ w.heap.size + 1 + 1; omega) _)⟩
end Go.Proofs.YtngbbefpphinjaaGreatDoor

/- Contract: delta.change, whatever it is handed to change a record by. -/
namespace Go.Proofs.YtngbbefpphinjaaGreatDoor
open Go Go.RowKit

def chgG (g : Grf) (id : Int) (fR : List Prp → List Prp) : Grf := ⟨putRec g.nodes (fpos g.nodes id) (fR (recAt g.nodes id)), g.ties⟩
def chgE (g : Grf) (id : Int) (fE : List Prp → Int) : Int := if fhas g.nodes id then fE (recAt g.nodes id) else 5
set_option maxRecDepth 100000 in
set_option maxHeartbeats 8000000 in
theorem chg_any (f : Nat) (caps : Array Value) (ef : ∀ args w, (callFunc f args).run Tryz.prog w = .ok (.enter f args) w) (fR : List Prp → List Prp) (fE : List Prp → Int) (g : Grf) (id : Int) (vn vt : Value) (xs : List Value) (B : Nat) (w : World) (hB : B ≤ w.heap.size) (hG : OwnG w B vn vt g xs) (hc : chain nodLt g.nodes = true) (hn : g.nodes.length ≤ 1000)
    (hby : ∀ (r : List Prp) (v : Value) (w' : World), Below w.heap.size w w' → Sl prpL w' v r → Calls Tryz.prog f (#[v] ++ caps) w' (RetO (fR r) (fE r) w')) :
    Calls Tryz.prog 102 #[.agg #[vn, vt], .int .i64 id, .func (.func f) #[] caps] w (RetOG B vn vt (chgG g id fR) (chgE g id fE) w) := by
  obtain ⟨An, cn, rfl, _, _⟩ := hG.n.form
  obtain ⟨At, ct, rfl, _, _⟩ := hG.t.form
  have hb0 : Below w.heap.size w ((w.alloc (.cells #[.slice An g.nodes.length cn, .slice At g.ties.length ct] 25)).alloc (.cells #[.slice none 0 0, .slice none 0 0] 25)) := ((Below.refl _ _).alloc (Nat.le_refl _) _).alloc (by simp) _
  have g0 : ((w.alloc (.cells #[.slice An g.nodes.length cn, .slice At g.ties.length ct] 25)).alloc (.cells #[.slice none 0 0, .slice none 0 0] 25)).heap[w.heap.size]? = some (.cells #[.slice An g.nodes.length cn, .slice At g.ties.length ct] 25 (0, 0)) := by
    rw [Below.heap_alloc _ _ _ (by simp)]; exact heap_alloc_new _ _
  have g2 : ((w.alloc (.cells #[.slice An g.nodes.length cn, .slice At g.ties.length ct] 25)).alloc (.cells #[.slice none 0 0, .slice none 0 0] 25)).heap[w.heap.size + 1]? = some (.cells #[.slice none 0 0, .slice none 0 0] 25 (0, 0)) := by
    have := heap_alloc_new (w.alloc (.cells #[.slice An g.nodes.length cn, .slice At g.ties.length ct] 25)) (.cells #[.slice none 0 0, .slice none 0 0] 25); simpa using this
  have hsz : ((w.alloc (.cells #[.slice An g.nodes.length cn, .slice At g.ties.length ct] 25)).alloc (.cells #[.slice none 0 0, .slice none 0 0] 25)).heap.size = w.heap.size + 2 := by simp
  generalize hW0 : ((w.alloc (.cells #[.slice An g.nodes.length cn, .slice At g.ties.length ct] 25)).alloc (.cells #[.slice none 0 0, .slice none 0 0] 25)) = W0 at *
  have hG0 := hG.below hb0
  have hf := find_any g _ _ W0 hG0.r id hc hn
  have x0 := block_cell g0 0
  have x1 := block_cell g0 1
  have HG := Lib.hid hG0
  have HW0 := Lib.hid hW0
  have HBY := Lib.hid hby
  clear hG hG0 hby
  obtain ⟨E, hE⟩ : ∃ E : Int, E = chgE g id fE := ⟨_, rfl⟩
  rw [← hE]
  have HE : Hid (E = if fhas g.nodes id then fE (recAt g.nodes id) else 5) := hE
  clear hE
  go_enter Tryz.func102, Tryz.ntmps102
  go_wp2_with fail
  refine hf.mono ?_
  clear hf
  rintro e w1 ⟨rfl, hb1⟩
  have hB1 := hb0.trans (hb1.mono hb0.size)
  have m0 := (hb1.block _ (Array.getElem?_eq_some_iff.1 g0).1).trans g0
  have m2 := (hb1.block _ (Array.getElem?_eq_some_iff.1 g2).1).trans g2
  have hG1 := HG.out.below hb1
  have hs1 := hb1.size
  have HFS : Hid (fhas g.nodes id = true → ∃ n, g.nodes[fpos g.nodes id]? = some n) := fhas_some'
  have HRA : Hid (∀ n, g.nodes[fpos g.nodes id]? = some n → recAt g.nodes id = n.props) := fun n h => by unfold recAt; rw [h]
  have HCG : Hid (chgG g id fR = ⟨putRec g.nodes (fpos g.nodes id) (fR (recAt g.nodes id)), g.ties⟩) := rfl
  generalize fhas g.nodes id = q at *
  generalize fpos g.nodes id = K at *
  clear g0 g2 x0 x1 HG
  cases q with
  | false =>
    have hE : E = 5 := by rw [HE.out]; rfl
    have HEE : Hid (errV E = .iface 122 (.int .i64 5)) := by unfold Hid; rw [hE]; rfl
    clear HE
    have x0 := block_cell m0 0
    have x1 := block_cell m0 1
    have e0 := block_free m2 0
    have e1 := block_free m2 1
    have e2 := block_cell m2 0
    have e3 := block_cell m2 1
    have k3 := setCell_block (setCell_block m2 0 (.slice An g.nodes.length cn)) 1 (.slice At g.ties.length ct)
    have HM := Lib.hid k3
    clear m0 m2 k3 hG1
    go_wp2_with fail
    have k2 := block_cell HM.out 0
    have k3 := block_cell HM.out 1
    exact bodyPost_ret (v := .tuple #[.agg #[.slice An g.nodes.length cn, .slice At g.ties.length ct], .iface 122 (.int .i64 5)]) (by simp [results, Tryz.results102, go_sem, k2, k3]) rfl
      ⟨.slice An g.nodes.length cn, .slice At g.ties.length ct, by simp only [HEE.out], (fun h => absurd h (by omega)), ⟨_, _, _, _, _, _, rfl, rfl⟩, ((hB1.mono hB).setCell (p := ⟨w.heap.size + 1, 0, none⟩) (by show B ≤ w.heap.size + 1; omega) _).setCell (p := ⟨w.heap.size + 1, 1, none⟩) (by show B ≤ w.heap.size + 1; omega) _, (((Keep2.below hB1).box (p := ⟨w.heap.size + 1, 0, none⟩) (by show w.heap.size ≤ w.heap.size + 1; omega) _).box (p := ⟨w.heap.size + 1, 1, none⟩) (by show w.heap.size ≤ w.heap.size + 1; omega) _)⟩
  | true =>
    obtain ⟨d, hd⟩ := HFS.out rfl
    have hra := HRA.out d hd
    have hkl := (List.getElem?_eq_some_iff.1 hd).1
    have HE2 : Hid (E = fE d.props) := by unfold Hid; rw [HE.out, hra]; rfl
    have HCG2 : Hid (chgG g id fR = ⟨g.nodes.set K ⟨d.id, d.kind, fR d.props⟩, g.ties⟩) := by
      unfold Hid; rw [HCG.out, hra]; unfold putRec; rw [hd]
    have HD := Lib.hid hd
    obtain ⟨u, k0, k1, k2, hid, hkd, hpo, hpr⟩ := hG1.o.get hd
    obtain ⟨gb, o, c2, hv, hgb1, hgb2⟩ := hG1.n.addr (by omega)
    injection hv with hv1 hv2 hv3
    subst hv1; subst hv3
    have z2 : w1.cell? ⟨gb, o + K * 3 + 2, none⟩ = some u := hG1.n.cell (j := K * 3 + 2) rfl k2
    have x0 := block_cell m0 0
    have x1 := block_cell m0 1
    have hcall := HBY.out d.props u w1 hB1 (hpr.prps hpo)
    obtain ⟨Au, cu, rfl, _, _⟩ := hpr.form
    have hKi : (K : Int) < (g.nodes.length : Int) := by omega
    have K2 := Lib.hid k2
    clear hra hd k0 k1 k2 hpr hv2 HE HCG HFS HRA
    by_cases he : fE d.props = 0
    case neg =>
      have HEE : Hid (errV E = .iface 122 (.int .i64 (fE d.props))) := by unfold Hid; rw [HE2.out]; exact errV_some he
      have HNE : Hid (¬ E = 0) := by unfold Hid; rw [HE2.out]; exact he
      have HV := Lib.hid (errV_some he)
      clear he
      go_wp2_with (
        (go_at_fn f
         refine hcall.mono ?_
         rintro e w2 ⟨u2, he2, hu2, hb2⟩
         rw [HV.out] at he2
         subst he2
         obtain ⟨A2, c3, rfl, _, _⟩ := hu2.1.form
         have hB2 := hB1.trans (hb2.mono hB1.size)
         have hG2 := hG1.below hb2
         have hs2 := hb2.size
         have m0' := (hb2.block _ (Array.getElem?_eq_some_iff.1 m0).1).trans m0
         have m2' := (hb2.block _ (Array.getElem?_eq_some_iff.1 m2).1).trans m2
         clear m0 m2 x0 x1 z2
         clear hG1 hB1 hu2 hcall
         have hG1 := hG2
         have hB1 := hB2
         have m0 := m0'
         have m2 := m2'
         clear hG2 hB2 m0' m2'
         have x0 := block_cell m0 0
         have x1 := block_cell m0 1
         have e0 := block_free m2 0
         have e1 := block_free m2 1
         have e2 := block_cell m2 0
         have e3 := block_cell m2 1
         have k3 := setCell_block (setCell_block m2 0 (.slice (some ⟨gb, o, none⟩) g.nodes.length cn)) 1 (.slice At g.ties.length ct)
         have HM := Lib.hid k3
         clear m0 m2 k3 hG1
         skip))
      have k2 := block_cell HM.out 0
      have k3 := block_cell HM.out 1
      exact bodyPost_ret (v := .tuple #[.agg #[.slice (some ⟨gb, o, none⟩) g.nodes.length cn, .slice At g.ties.length ct], .iface 122 (.int .i64 (fE d.props))]) (by simp [results, Tryz.results102, go_sem, k2, k3]) rfl
        ⟨.slice (some ⟨gb, o, none⟩) g.nodes.length cn, .slice At g.ties.length ct, by simp only [HEE.out], (fun h => absurd h HNE.out), ⟨_, _, _, _, _, _, rfl, rfl⟩, ((hB1.mono hB).setCell (p := ⟨w.heap.size + 1, 0, none⟩) (by show B ≤ w.heap.size + 1; omega) _).setCell (p := ⟨w.heap.size + 1, 1, none⟩) (by show B ≤ w.heap.size + 1; omega) _, (((Keep2.below hB1).box (p := ⟨w.heap.size + 1, 0, none⟩) (by show w.heap.size ≤ w.heap.size + 1; omega) _).box (p := ⟨w.heap.size + 1, 1, none⟩) (by show w.heap.size ≤ w.heap.size + 1; omega) _)⟩
    have hE : E = 0 := by rw [HE2.out]; exact he
    have HER : Hid (errV E = .nilIface) := by unfold Hid; rw [hE]; rfl
    have HV := Lib.hid (errV_zero he)
    clear he
    go_wp2_with (
      (go_at_fn f
       refine hcall.mono ?_
       rintro e w2 ⟨u2, he2, hu2, hb2⟩
       rw [HV.out] at he2
       subst he2
       obtain ⟨A2, c3, rfl, _, _⟩ := hu2.1.form
       have hB2 := hB1.trans (hb2.mono hB1.size)
       have hG2 := hG1.below hb2
       have hs2 := hb2.size
       have m0' := (hb2.block _ (Array.getElem?_eq_some_iff.1 m0).1).trans m0
       have m2' := (hb2.block _ (Array.getElem?_eq_some_iff.1 m2).1).trans m2
       clear m0 m2 x0 x1 z2
       have hst := hG2.n.store (K * 3 + 2) (by omega) (.slice A2 (fR d.props).length c3)
       have f2 := hG2.n.frozen rfl (o + K * 3 + 2)
       have z2 : w2.cell? ⟨gb, o + K * 3 + 2, none⟩ = some (.slice Au d.props.length cu) := hG2.n.cell (j := K * 3 + 2) rfl K2.out
       have x0 := block_cell m0' 0
       have x1 := block_cell m0' 1
       have hsg : ∀ T, 29 ≠ T → Same T w2 (w2.setCell ⟨gb, o + K * 3 + 2, none⟩ (.slice A2 (fR d.props).length c3)) := fun T hT => Same.cellOf hG2.n hT _ _
       have n0 := hsg 25 (by decide) _ _ _ m0'
       have n2 := hsg 25 (by decide) _ _ _ m2'
       have p3 := setCell_block n2 0 (.slice (some ⟨gb, o, none⟩) g.nodes.length cn)
       have p4 := setCell_block p3 1 (.slice At g.ties.length ct)
       have a3 := block_cell n0 0
       have a4 := block_cell n0 1
       have a5 := block_free n2 0
       have a6 := block_free n2 1
       have a7 := block_cell n2 0
       have a8 := block_cell n2 1
       have HS : Hid (∀ T, 25 ≠ T → Same T (w2.setCell ⟨gb, o + K * 3 + 2, none⟩ (.slice A2 (fR d.props).length c3)) (((w2.setCell ⟨gb, o + K * 3 + 2, none⟩ (.slice A2 (fR d.props).length c3)).setCell ⟨w.heap.size + 1, 0, none⟩ (.slice (some ⟨gb, o, none⟩) g.nodes.length cn)).setCell ⟨w.heap.size + 1, 1, none⟩ (.slice At g.ties.length ct))) := fun T hT =>
         (Same.setCell (p := ⟨w.heap.size + 1, 0, none⟩) n2 hT _).trans (Same.setCell (p := ⟨w.heap.size + 1, 1, none⟩) p3 hT _)
       have hput := OwnNods.put (v := .slice A2 (fR d.props).length c3) hu2.2 (hu2.1.mono (by omega)) hG2.o HD.out
       have HFIN : Hid (OwnG (((w2.setCell ⟨gb, o + K * 3 + 2, none⟩ (.slice A2 (fR d.props).length c3)).setCell ⟨w.heap.size + 1, 0, none⟩ (.slice (some ⟨gb, o, none⟩) g.nodes.length cn)).setCell ⟨w.heap.size + 1, 1, none⟩ (.slice At g.ties.length ct)) B (.slice (some ⟨gb, o, none⟩) g.nodes.length cn) (.slice At g.ties.length ct) (chgG g id fR) (xs.set (K * 3 + 2) (.slice A2 (fR d.props).length c3))) := by
         rw [HCG2.out]
         refine ⟨?_, (hput.same (hsg _ (by decide))).same (HS.out _ (by decide)), (hG2.t.same (hsg _ (by decide))).same (HS.out _ (by decide)), hG2.k⟩
         show Own _ B 29 3 _ (g.nodes.set K ⟨d.id, d.kind, fR d.props⟩).length _
         rw [List.length_set]
         exact hst.same (HS.out _ (by decide))
       have HP4 := Lib.hid p4
       have hgB := (hG2.n.lt gb rfl).1
       clear hst hput n0 n2 p3 p4 hsg hG2 hG1 m0' m2' hu2 HE2 hE hcall))
    have k2 := block_cell HP4.out 0
    have k3 := block_cell HP4.out 1
    exact bodyPost_ret (v := .tuple #[.agg #[.slice (some ⟨gb, o, none⟩) g.nodes.length cn, .slice At g.ties.length ct], .nilIface]) (by simp [results, Tryz.results102, go_sem, k2, k3]) rfl
      ⟨.slice (some ⟨gb, o, none⟩) g.nodes.length cn, .slice At g.ties.length ct, by simp only [HER.out], (fun _ => ⟨_, HFIN.out⟩), ⟨_, _, _, _, _, _, rfl, rfl⟩, (((hB2.mono hB).setCell (p := ⟨gb, o + K * 3 + 2, none⟩) hgB _).setCell (p := ⟨w.heap.size + 1, 0, none⟩) (by show B ≤ w.heap.size + 1; omega) _).setCell (p := ⟨w.heap.size + 1, 1, none⟩) (by show B ≤ w.heap.size + 1; omega) _, ((((Keep2.below hB2).own (p := ⟨gb, o + K * 3 + 2, none⟩) rfl _).box (p := ⟨w.heap.size + 1, 0, none⟩) (by show w.heap.size ≤ w.heap.size + 1; omega) _).box (p := ⟨w.heap.size + 1, 1, none⟩) (by show w.heap.size ≤ w.heap.size + 1; omega) _)⟩
end Go.Proofs.YtngbbefpphinjaaGreatDoor

/- Contract: record.Unset. -/
namespace Go.Proofs.YtngbbefpphinjaaGreatDoor
open Go Go.RowKit

set_option maxRecDepth 100000 in
set_option maxHeartbeats 4000000 in
theorem unset_own (r : List Prp) (nm : ByteArray) (v : Value) (w : World) (hv : Sl prpL w v r) :
    Calls Tryz.prog 106 #[v, .string nm] w (RetO (unsetR r nm) (unsetE r nm) w) := by
  have h1 := recCheck_any r v _ hv
  have HV := Lib.hid hv
  obtain ⟨A, c, rfl, _, _⟩ := hv.form
  clear hv
  go_enter Tryz.func106, Tryz.ntmps106
  go_wp2_with fail
  refine h1.mono ?_
  clear h1
  rintro e w1 ⟨rfl, hb1⟩
  by_cases he : recE r = 0
  case neg =>
    have HE : Hid (errV (unsetE r nm) = .iface 122 (.int .i64 (recE r)) ∧ unsetR r nm = []) := by
      have h0 : unsetE r nm = recE r := by unfold unsetE; rw [if_neg he]
      exact ⟨by rw [h0]; exact errV_some he, by unfold unsetR; rw [h0, if_neg he]⟩
    rw [errV_some he]
    clear he
    go_wp2_with fail
    go_ret2
    exact ⟨.slice none 0 0, by rw [HE.out.1]; rfl, by rw [HE.out.2]; exact OwnP.nil, hb1⟩
  obtain ⟨hl8, _, hch⟩ := rec_ok he
  have HE : Hid (unsetE r nm = if rhas r nm then 0 else 5) := by unfold Hid unsetE; rw [if_pos he]
  have HR : Hid (unsetR r nm = if unsetE r nm = 0 then r.take (rpos r nm) ++ r.drop (rpos r nm + 1) else []) := rfl
  rw [errV_zero he]
  have hfd := rfind_any r nm _ w1 (HV.out.below hb1) hch (by omega)
  clear he hch
  go_wp2_with fail
  refine hfd.mono ?_
  clear hfd
  rintro e w2 ⟨rfl, hb2⟩
  have hB2 := hb1.trans (hb2.mono hb1.size)
  cases hq : rhas r nm with
  | false =>
    have HF : Hid (errV (unsetE r nm) = .iface 122 (.int .i64 5) ∧ unsetR r nm = []) := by
      have h0 : unsetE r nm = 5 := by rw [HE.out, hq]; rfl
      exact ⟨by rw [h0]; rfl, by rw [HR.out, h0, if_neg (by omega)]⟩
    clear hq HE HR
    go_wp2_with fail
    go_ret2
    exact ⟨.slice none 0 0, by rw [HF.out.1]; rfl, by rw [HF.out.2]; exact OwnP.nil, hB2⟩
  | true =>
    obtain ⟨d, hd⟩ := rhas_some hq
    have hkl := (List.getElem?_eq_some_iff.1 hd).1
    obtain ⟨m, hm⟩ : ∃ m, r.length = m + 1 := ⟨r.length - 1, by omega⟩
    have HF : Hid (errV (unsetE r nm) = .nilIface ∧ unsetR r nm = r.take (rpos r nm) ++ r.drop (rpos r nm + 1)) := by
      have h0 : unsetE r nm = 0 := by rw [HE.out, hq]; rfl
      exact ⟨by rw [h0]; rfl, by rw [HR.out, h0, if_pos rfl]⟩
    have hcl := clone_prps (HV.out.below hB2) (by omega)
    have hKi : ((rpos r nm : Nat) : Int) ≤ 8 := by omega
    have HL : Hid ((unsetR r nm).length = m) := by unfold Hid; rw [HF.out.2]; simp; omega
    have HO : Hid (∀ x ∈ r, x.ok → x.ok) := fun x _ h => h
    have HM : Hid (∀ x ∈ unsetR r nm, x ∈ r) := fun x hx => by
      rw [HF.out.2] at hx
      rcases List.mem_append.1 hx with h | h
      · exact List.mem_of_mem_take h
      · exact List.mem_of_mem_drop h
    generalize rpos r nm = K at *
    have HM0 := Lib.hid hm
    clear hq HE HR hd hm
    go_wp2_with fail
    refine hcl.mono ?_
    clear hcl
    rintro e w3 ⟨v3, xs, rfl, hown, hrow, hb3⟩
    obtain ⟨rfl, hoks⟩ := Row.flat hrow
    have hown : Own w3 w2.heap.size 33 4 v3 r.length (r.flatMap Prp.enc) := hown
    have hB3 := hB2.trans (hb3.mono hB2.size)
    have hs2 := hB2.size
    have HOK := Lib.hid hoks
    rw [HM0.out] at hown
    have hm := HM0.out
    have hdel := del1_prps w3 w2.heap.size v3 m (r.flatMap Prp.enc) hown K (by omega) (oneCell_flat Prp.enc_one r) (by omega)
    rw [flat_take Prp.enc_len r K (by omega), flat_drop Prp.enc_len r (K + 1) (by omega), ← List.flatMap_append, ← HF.out.2] at hdel
    have HW := Lib.hid hown
    obtain ⟨A3, c3, rfl, _, _⟩ := hown.form
    rw [hm]
    clear hown hrow hoks hm
    go_wp2_with fail
    refine hdel.mono ?_
    clear hdel
    rintro e w4 ⟨u4, rfl, ho4, hg4, hu4⟩
    have hB4 : Below w.heap.size w w4 := hB3.grown hg4 (by have := hb3.size; omega) (fun kk e => by have := (HW.out.lt kk e).1; omega)
    have HO4 := Lib.hid ho4
    obtain ⟨A4, c4, rfl, _, _⟩ := ho4.form
    clear ho4 hg4 hu4
    go_wp2_with fail
    go_ret2
    exact ⟨.slice A4 m c4, by rw [HF.out.1]; rfl, ⟨by rw [HL.out]; exact HO4.out.mono hs2, fun x hx => HOK.out x (HM.out x hx)⟩, hB4⟩
end Go.Proofs.YtngbbefpphinjaaGreatDoor
