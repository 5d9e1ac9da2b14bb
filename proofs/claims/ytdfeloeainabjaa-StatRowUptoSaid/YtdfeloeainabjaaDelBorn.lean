/- Contract: delta.born. -/
import Derived.Test.YtdfeloeainabjaaGrO
import Derived.Test.YtdfeloeainabjaaInsN
namespace Go.Proofs.Ytdfeloeainabjaa
open Go Go.RowKit

theorem nod_rec' {n : Nod} (h : nodE n = 0) : recE n.props = 0 := by
  unfold nodE at h
  split at h
  · omega
  · split at h
    · exact h
    · rename_i h2; exact absurd h h2
set_option maxRecDepth 100000 in
set_option maxHeartbeats 8000000 in
theorem born_any (g : Grf) (n : Nod) (vn vt vr : Value) (xs : List Value) (B : Nat) (w : World) (hB : B ≤ w.heap.size) (hG : OwnG w B vn vt g xs) (hc : chain nodLt g.nodes = true) (hn : g.nodes.length ≤ 1000)
    (hr : Sl prpL w vr n.props) (hk : Sm n.kind) (hi : I64 n.id) :
    Calls Try.prog 79 #[.agg #[vn, vt], .agg #[.int .i64 n.id, .string n.kind, vr]] w (RetOG B vn vt (bornG g n) (bornE g n) w) := by
  obtain ⟨An, cn, rfl, _, _⟩ := hG.n.form
  obtain ⟨At, ct, rfl, _, _⟩ := hG.t.form
  obtain ⟨Ar, cr, rfl, _, _⟩ := hr.form
  have hb0 : Below w.heap.size w (((w.alloc (.cells #[.slice An g.nodes.length cn, .slice At g.ties.length ct] 29)).alloc (.cells #[.int .i64 n.id, .string n.kind, .slice Ar n.props.length cr] 33)).alloc (.cells #[.slice none 0 0, .slice none 0 0] 29)) := (((Below.refl _ _).alloc (Nat.le_refl _) _).alloc (by simp) _).alloc (by simp; omega) _
  have g0 : (((w.alloc (.cells #[.slice An g.nodes.length cn, .slice At g.ties.length ct] 29)).alloc (.cells #[.int .i64 n.id, .string n.kind, .slice Ar n.props.length cr] 33)).alloc (.cells #[.slice none 0 0, .slice none 0 0] 29)).heap[w.heap.size]? = some (.cells #[.slice An g.nodes.length cn, .slice At g.ties.length ct] 29 (0, 0)) := by
    rw [Below.heap_alloc _ _ _ (by simp; omega), Below.heap_alloc _ _ _ (by simp)]; exact heap_alloc_new _ _
  have g1 : (((w.alloc (.cells #[.slice An g.nodes.length cn, .slice At g.ties.length ct] 29)).alloc (.cells #[.int .i64 n.id, .string n.kind, .slice Ar n.props.length cr] 33)).alloc (.cells #[.slice none 0 0, .slice none 0 0] 29)).heap[w.heap.size + 1]? = some (.cells #[.int .i64 n.id, .string n.kind, .slice Ar n.props.length cr] 33 (0, 0)) := by
    rw [Below.heap_alloc _ _ _ (by simp)]
    have := heap_alloc_new (w.alloc (.cells #[.slice An g.nodes.length cn, .slice At g.ties.length ct] 29)) (.cells #[.int .i64 n.id, .string n.kind, .slice Ar n.props.length cr] 33); simpa using this
  have g2 : (((w.alloc (.cells #[.slice An g.nodes.length cn, .slice At g.ties.length ct] 29)).alloc (.cells #[.int .i64 n.id, .string n.kind, .slice Ar n.props.length cr] 33)).alloc (.cells #[.slice none 0 0, .slice none 0 0] 29)).heap[w.heap.size + 1 + 1]? = some (.cells #[.slice none 0 0, .slice none 0 0] 29 (0, 0)) := by
    have := heap_alloc_new ((w.alloc (.cells #[.slice An g.nodes.length cn, .slice At g.ties.length ct] 29)).alloc (.cells #[.int .i64 n.id, .string n.kind, .slice Ar n.props.length cr] 33)) (.cells #[.slice none 0 0, .slice none 0 0] 29); simpa using this
  have hsz : (((w.alloc (.cells #[.slice An g.nodes.length cn, .slice At g.ties.length ct] 29)).alloc (.cells #[.int .i64 n.id, .string n.kind, .slice Ar n.props.length cr] 33)).alloc (.cells #[.slice none 0 0, .slice none 0 0] 29)).heap.size = w.heap.size + 3 := by simp
  generalize hW0 : (((w.alloc (.cells #[.slice An g.nodes.length cn, .slice At g.ties.length ct] 29)).alloc (.cells #[.int .i64 n.id, .string n.kind, .slice Ar n.props.length cr] 33)).alloc (.cells #[.slice none 0 0, .slice none 0 0] 29)) = W0 at *
  have hG0 := hG.below hb0
  have hon := ofNode_any n _ W0 hk (hr.below hb0)
  have x0 := block_cell g0 0
  have x1 := block_cell g0 1
  have y0 := block_cell g1 0
  have y1 := block_cell g1 1
  have y2 := block_cell g1 2
  have HR := Lib.hid (hr.below hb0)
  have HG := Lib.hid hG0
  have HW0 := Lib.hid hW0
  clear hG hG0 hr
  obtain ⟨E, hE⟩ : ∃ E : Int, E = bornE g n := ⟨_, rfl⟩
  rw [← hE]
  have HE : Hid (E = if nodE n = 0 then (if fhas g.nodes n.id then 7 else if 60 ≤ g.nodes.length then 4 else 0) else nodE n) := hE
  clear hE
  go_enter Try.func79, Try.ntmps79
  go_wp2_with fail
  refine hon.mono ?_
  clear hon
  rintro e w1 ⟨rfl, hb1⟩
  have hB1 := hb0.trans (hb1.mono hb0.size)
  have m0 := (hb1.block _ (Array.getElem?_eq_some_iff.1 g0).1).trans g0
  have m1 := (hb1.block _ (Array.getElem?_eq_some_iff.1 g1).1).trans g1
  have m2 := (hb1.block _ (Array.getElem?_eq_some_iff.1 g2).1).trans g2
  have hG1 := HG.out.below hb1
  have hs1 := hb1.size
  clear g0 g1 g2 x0 x1 y0 y1 y2 HG
  by_cases he : nodE n = 0
  case neg =>
    have HEE : Hid (errV E = .iface 23 (.int .i64 (nodE n))) := by unfold Hid; rw [HE.out, if_neg he]; exact errV_some he
    have HNE : Hid (¬ E = 0) := by unfold Hid; rw [HE.out, if_neg he]; exact he
    rw [errV_some he]
    clear HE he
    have x0 := block_cell m0 0
    have x1 := block_cell m0 1
    have e0 := block_free m2 0
    have e1 := block_free m2 1
    have e2 := block_cell m2 0
    have e3 := block_cell m2 1
    have k3 := setCell_block (setCell_block m2 0 (.slice An g.nodes.length cn)) 1 (.slice At g.ties.length ct)
    have HM := Lib.hid k3
    clear m0 m1 m2 k3 hG1
    go_wp2_with fail
    have k2 := block_cell HM.out 0
    have k3 := block_cell HM.out 1
    exact bodyPost_ret (v := .tuple #[.agg #[.slice An g.nodes.length cn, .slice At g.ties.length ct], .iface 23 (.int .i64 (nodE n))]) (by simp [results, Try.results79, go_sem, k2, k3]) rfl
      ⟨.slice An g.nodes.length cn, .slice At g.ties.length ct, by simp only [HEE.out], (fun h => absurd h HNE.out), ⟨_, _, _, _, _, _, rfl, rfl⟩, ((hB1.mono hB).setCell (p := ⟨w.heap.size + 1 + 1, 0, none⟩) (by show B ≤ w.heap.size + 1 + 1; omega) _).setCell (p := ⟨w.heap.size + 1 + 1, 1, none⟩) (by show B ≤ w.heap.size + 1 + 1; omega) _, (((Keep2.below hB1).box (p := ⟨w.heap.size + 1 + 1, 0, none⟩) (by show w.heap.size ≤ w.heap.size + 1 + 1; omega) _).box (p := ⟨w.heap.size + 1 + 1, 1, none⟩) (by show w.heap.size ≤ w.heap.size + 1 + 1; omega) _)⟩
  have HE3 : Hid (E = if fhas g.nodes n.id then 7 else if 60 ≤ g.nodes.length then 4 else 0) := by unfold Hid; rw [HE.out, if_pos he]
  have hrec := (rec_ok (nod_rec' he)).1
  have hsm := HR.out.below hb1
  rw [errV_zero he]
  have hf := find_any g _ _ w1 hG1.r n.id hc hn
  have HR1 := Lib.hid hsm
  have x0 := block_cell m0 0
  have x1 := block_cell m0 1
  have y0 := block_cell m1 0
  have hKl : fpos g.nodes n.id ≤ g.nodes.length := lowI_le _ _
  have HBG : Hid (bornG g n = ⟨g.nodes.take (fpos g.nodes n.id) ++ n :: g.nodes.drop (fpos g.nodes n.id), g.ties⟩) := rfl
  generalize fhas g.nodes n.id = q at *
  generalize fpos g.nodes n.id = K at *
  clear HE he HR hb1 hsm
  go_wp2_with fail
  refine hf.mono ?_
  clear hf
  rintro e w1b ⟨rfl, hb1b⟩
  have hB1' := hB1.trans (hb1b.mono hB1.size)
  have m0' := (hb1b.block _ (Array.getElem?_eq_some_iff.1 m0).1).trans m0
  have m1' := (hb1b.block _ (Array.getElem?_eq_some_iff.1 m1).1).trans m1
  have m2' := (hb1b.block _ (Array.getElem?_eq_some_iff.1 m2).1).trans m2
  have hG1' := hG1.below hb1b
  have hs1' := hb1b.size
  have HR2 := Lib.hid (HR1.out.below hb1b)
  clear hB1 m0 m1 m2 hG1 hb1b x0 x1 y0 HR1
  have hB1 := hB1'
  have m0 := m0'
  have m1 := m1'
  have m2 := m2'
  have hG1 := hG1'
  clear hB1' m0' m1' m2' hG1'
  cases q with
  | true =>
    have hE : E = 7 := by rw [HE3.out]; rfl
    have HEE : Hid (errV E = .iface 23 (.int .i64 7)) := by unfold Hid; rw [hE]; rfl
    clear HE3
    have x0 := block_cell m0 0
    have x1 := block_cell m0 1
    have e0 := block_free m2 0
    have e1 := block_free m2 1
    have e2 := block_cell m2 0
    have e3 := block_cell m2 1
    have k3 := setCell_block (setCell_block m2 0 (.slice An g.nodes.length cn)) 1 (.slice At g.ties.length ct)
    have HM := Lib.hid k3
    clear m0 m1 m2 k3 hG1
    go_wp2_with fail
    have k2 := block_cell HM.out 0
    have k3 := block_cell HM.out 1
    exact bodyPost_ret (v := .tuple #[.agg #[.slice An g.nodes.length cn, .slice At g.ties.length ct], .iface 23 (.int .i64 7)]) (by simp [results, Try.results79, go_sem, k2, k3]) rfl
      ⟨.slice An g.nodes.length cn, .slice At g.ties.length ct, by simp only [HEE.out], (fun h => absurd h (by omega)), ⟨_, _, _, _, _, _, rfl, rfl⟩, ((hB1.mono hB).setCell (p := ⟨w.heap.size + 1 + 1, 0, none⟩) (by show B ≤ w.heap.size + 1 + 1; omega) _).setCell (p := ⟨w.heap.size + 1 + 1, 1, none⟩) (by show B ≤ w.heap.size + 1 + 1; omega) _, (((Keep2.below hB1).box (p := ⟨w.heap.size + 1 + 1, 0, none⟩) (by show w.heap.size ≤ w.heap.size + 1 + 1; omega) _).box (p := ⟨w.heap.size + 1 + 1, 1, none⟩) (by show w.heap.size ≤ w.heap.size + 1 + 1; omega) _)⟩
  | false =>
    by_cases hf : 60 ≤ g.nodes.length
    · have hE : E = 4 := by rw [HE3.out, if_neg (by simp), if_pos hf]
      have HEE : Hid (errV E = .iface 23 (.int .i64 4)) := by unfold Hid; rw [hE]; rfl
      have hf' : (60 : Int) ≤ (g.nodes.length : Int) := by omega
      clear HE3
      have x0 := block_cell m0 0
      have x1 := block_cell m0 1
      have e0 := block_free m2 0
      have e1 := block_free m2 1
      have e2 := block_cell m2 0
      have e3 := block_cell m2 1
      have k3 := setCell_block (setCell_block m2 0 (.slice An g.nodes.length cn)) 1 (.slice At g.ties.length ct)
      have HM := Lib.hid k3
      clear m0 m1 m2 k3 hG1
      go_wp2_with fail
      have k2 := block_cell HM.out 0
      have k3 := block_cell HM.out 1
      exact bodyPost_ret (v := .tuple #[.agg #[.slice An g.nodes.length cn, .slice At g.ties.length ct], .iface 23 (.int .i64 4)]) (by simp [results, Try.results79, go_sem, k2, k3]) rfl
        ⟨.slice An g.nodes.length cn, .slice At g.ties.length ct, by simp only [HEE.out], (fun h => absurd h (by omega)), ⟨_, _, _, _, _, _, rfl, rfl⟩, ((hB1.mono hB).setCell (p := ⟨w.heap.size + 1 + 1, 0, none⟩) (by show B ≤ w.heap.size + 1 + 1; omega) _).setCell (p := ⟨w.heap.size + 1 + 1, 1, none⟩) (by show B ≤ w.heap.size + 1 + 1; omega) _, (((Keep2.below hB1).box (p := ⟨w.heap.size + 1 + 1, 0, none⟩) (by show w.heap.size ≤ w.heap.size + 1 + 1; omega) _).box (p := ⟨w.heap.size + 1 + 1, 1, none⟩) (by show w.heap.size ≤ w.heap.size + 1 + 1; omega) _)⟩
    · have hE : E = 0 := by rw [HE3.out, if_neg (by simp), if_neg hf]
      have HER : Hid (errV E = .nilIface) := by unfold Hid; rw [hE]; rfl
      have hf' : (g.nodes.length : Int) < 60 := by omega
      clear HE3 hE
      have x0 := block_cell m0 0
      have x1 := block_cell m0 1
      have y0 := block_cell m1 0
      have y1 := block_cell m1 1
      have y2 := block_cell m1 2
      have hcall := ownNode_any n (.slice Ar n.props.length cr) w1b.drew (HR2.out.below (Below.refl _ _).drew) (by omega)
      have HG1 := Lib.hid hG1
      have M0 := Lib.hid m0
      have M2 := Lib.hid m2
      clear m0 m1 m2 hG1
      go_wp2_with fail
      go_region_law
        (first
          | (refine step_callx rfl 47 #[.agg #[.int .i64 n.id, .string n.kind, .slice Ar n.props.length cr]] (by kernel_rfl) hcall ?_
             rintro e w2 ⟨u2, rfl, hu, hb2⟩
             refine ⟨_, rfl, ?_⟩
             have hb2' := (Below.refl w1b.heap.size w1b).drew.trans hb2
             have p0 := cell_below hb2' x0
             obtain ⟨A2, c3, rfl, _, _⟩ := hu.1.form
             have hbx : Below w2.heap.size w2 (w2.alloc (.cells #[.int .i64 n.id, .string n.kind, .slice A2 n.props.length c3] 33)) := (Below.refl _ _).alloc (Nat.le_refl _) _
             have hG2 := (HG1.out.below hb2').below hbx
             have hil := ins_nod (w2.alloc (.cells #[.int .i64 n.id, .string n.kind, .slice A2 n.props.length c3] 33)) B (.slice An g.nodes.length cn) g.nodes.length xs hG2.n K hKl w2.heap.size [.int .i64 n.id, .string n.kind, .slice A2 n.props.length c3] rfl (heap_alloc_new _ _) (fun u hu => by simp at hu; rcases hu with rfl | rfl | rfl <;> rfl) hG2.o.oneCell
               (fun e => by have := ((HG1.out.below hb2').n.lt _ e).2; omega) (by have := hb2'.size; simp; omega) (by omega)
             have p0x := cell_below hbx p0)
          | (refine step_callx rfl 116 #[.slice An g.nodes.length cn, .int .i64 K, .slice (some ⟨w2.heap.size, 0, none⟩) 1 1] (by kernel_rfl) hil ?_
             rintro e w3 ⟨u3, rfl, ho3, hg3⟩
             refine ⟨_, rfl, ?_⟩
             have hsame : ∀ T, 33 ≠ T → Same T w1b w3 := fun T hT => (Same.below (hb2'.trans (hbx.mono hb2'.size))).trans (Same.grown hG2.n hT hg3)
             have n0 := hsame 29 (by decide) _ _ _ M0.out
             have a0 := block_free n0 0
             have a1 := block_cell n0 0
             have a2 := block_cell n0 1
             obtain ⟨A4, c4, rfl, _, _⟩ := ho3.form))
      all_goals
        have n2 := hsame 29 (by decide) _ _ _ M2.out
        have p0 := setCell_block n0 0 (.slice A4 (g.nodes.length + 1) c4)
        have p2 : (w3.setCell ⟨w.heap.size, 0, none⟩ (.slice A4 (g.nodes.length + 1) c4)).heap[w.heap.size + 1 + 1]? = some (.cells #[.slice none 0 0, .slice none 0 0] 29 (0, 0)) := by rw [Below.heap_setCell _ _ _ _ (by simp; omega)]; exact n2
        have p3 := setCell_block p2 0 (.slice A4 (g.nodes.length + 1) c4)
        have p4 := setCell_block p3 1 (.slice At g.ties.length ct)
        have HS : Hid (∀ T, 29 ≠ T → Same T w3 (((w3.setCell ⟨w.heap.size, 0, none⟩ (.slice A4 (g.nodes.length + 1) c4)).setCell ⟨w.heap.size + 1 + 1, 0, none⟩ (.slice A4 (g.nodes.length + 1) c4)).setCell ⟨w.heap.size + 1 + 1, 1, none⟩ (.slice At g.ties.length ct))) := fun T hT =>
          (Same.setCell (p := ⟨w.heap.size, 0, none⟩) n0 hT _).trans ((Same.setCell (p := ⟨w.heap.size + 1 + 1, 0, none⟩) p2 hT _).trans (Same.setCell (p := ⟨w.heap.size + 1 + 1, 1, none⟩) p3 hT _))
        have hs2 := hb2'.size
        have hs3 := hg3.size
        have hs2x : (w2.alloc (.cells #[.int .i64 n.id, .string n.kind, .slice A2 n.props.length c3] 33)).heap.size = w2.heap.size + 1 := by simp
        have hu4 : Own (w2.alloc (.cells #[.int .i64 n.id, .string n.kind, .slice A2 n.props.length c3] 33)) B 67 4 (.slice A2 n.props.length c3) n.props.length (n.props.flatMap Prp.enc) := (hu.1.mono (by have : w1b.drew.heap.size = w1b.heap.size := rfl; omega)).below hbx
        have hon : OwnNods (w2.alloc (.cells #[.int .i64 n.id, .string n.kind, .slice A2 n.props.length c3] 33)) B (g.nodes.take K ++ n :: g.nodes.drop K) (xs.take (K * 3) ++ [.int .i64 n.id, .string n.kind, .slice A2 n.props.length c3] ++ xs.drop (K * 3)) := hG2.o.insert K hKl hi hk hu.2 hu4
        have HFIN : Hid (OwnG (((w3.setCell ⟨w.heap.size, 0, none⟩ (.slice A4 (g.nodes.length + 1) c4)).setCell ⟨w.heap.size + 1 + 1, 0, none⟩ (.slice A4 (g.nodes.length + 1) c4)).setCell ⟨w.heap.size + 1 + 1, 1, none⟩ (.slice At g.ties.length ct)) B (.slice A4 (g.nodes.length + 1) c4) (.slice At g.ties.length ct) (bornG g n) (xs.take (K * 3) ++ [.int .i64 n.id, .string n.kind, .slice A2 n.props.length c3] ++ xs.drop (K * 3))) := by
          rw [HBG.out]
          refine ⟨?_, (hon.same (Same.grown hG2.n (by decide) hg3)).same (HS.out _ (by decide)), ((HG1.out.t.same (hsame _ (by decide))).same (HS.out _ (by decide))), HG1.out.k⟩
          have hl : (g.nodes.take K ++ n :: g.nodes.drop K).length = g.nodes.length + 1 := by simp; omega
          show Own _ B 33 3 _ (g.nodes.take K ++ n :: g.nodes.drop K).length _
          rw [hl]
          exact ho3.same (HS.out _ (by decide))
        have hK3 : Keep2 w w3 (.slice An g.nodes.length cn) (.slice At g.ties.length ct) := ((Keep2.below hB1).then (hb2'.trans (hbx.mono hb2'.size))).grown1 hg3
        have hB3 : Below B w w3 := ((hB1.mono hB).trans ((hb2'.trans (hbx.mono hb2'.size)).mono (by omega))).grown hg3 (by omega) (fun j e => (hG2.n.lt j e).1)
        have a3 := block_cell p0 0
        have a4 := block_cell p0 1
        have a5 := block_free p2 0
        have a6 := block_free p2 1
        have a7 := block_cell p2 0
        have a8 := block_cell p2 1
        have HP4 := Lib.hid p4
        clear ho3 hil n0 n2 p0 p2 p3 p4 hsame hg3 hG2 hu hu4 hon a0 a1 a2 p0x x0 x1 y0 y1 y2
        go_wp2_with fail
        have k2 := block_cell HP4.out 0
        have k3 := block_cell HP4.out 1
        exact bodyPost_ret (v := .tuple #[.agg #[.slice A4 (g.nodes.length + 1) c4, .slice At g.ties.length ct], .nilIface]) (by simp [results, Try.results79, go_sem, k2, k3]) rfl
          ⟨.slice A4 (g.nodes.length + 1) c4, .slice At g.ties.length ct, by simp only [HER.out], (fun _ => ⟨_, HFIN.out⟩), ⟨_, _, _, _, _, _, rfl, rfl⟩, ((hB3.setCell (p := ⟨w.heap.size, 0, none⟩) hB _).setCell (p := ⟨w.heap.size + 1 + 1, 0, none⟩) (by show B ≤ w.heap.size + 1 + 1; omega) _).setCell (p := ⟨w.heap.size + 1 + 1, 1, none⟩) (by show B ≤ w.heap.size + 1 + 1; omega) _, (((hK3.box (p := ⟨w.heap.size, 0, none⟩) (Nat.le_refl _) _).box (p := ⟨w.heap.size + 1 + 1, 0, none⟩) (by show w.heap.size ≤ w.heap.size + 1 + 1; omega) _).box (p := ⟨w.heap.size + 1 + 1, 1, none⟩) (by show w.heap.size ≤ w.heap.size + 1 + 1; omega) _)⟩
end Go.Proofs.Ytdfeloeainabjaa
