/- Contract: the law DeltaEmpties answers true. -/
import Derived.Test.YtdfeloeainabjaaDelAll
import Derived.Test.YtdfeloeainabjaaGNode
import Derived.Test.YtdfeloeainabjaaEmptyP
import Derived.Test.YtdfeloeainabjaaManyP
import Derived.Deep.DeepCutAuto
import Derived.Deep.CutRange
namespace Go.Proofs.Ytdfeloeainabjaa
open Go Go.RowKit

def goneOp (id : Int) : Opr := ⟨2, ⟨id, ⟨#[]⟩, []⟩, ⟨⟨#[]⟩, ⟨0, 0, ⟨#[]⟩⟩⟩, ⟨⟨#[]⟩, 0, 0⟩⟩
theorem goneOp_r (id : Int) (hi : I64 id) (w : World) : OprR w (.slice none 0 0) (goneOp id) :=
  ⟨Sl.nil 0 (Nat.zero_le _) none, by show (0 : Nat) ≤ 1048576; omega, hi, ⟨by show (0 : Nat) ≤ 1048576; omega, by show I64 (0 : Int); unfold I64; omega, by show I64 (0 : Int); unfold I64; omega, by show (0 : Nat) ≤ 1048576; omega⟩,
    ⟨by show (0 : Nat) ≤ 1048576; omega, by show I64 (0 : Int); unfold I64; omega, by show I64 (0 : Int); unfold I64; omega⟩⟩
theorem goneOp_do {g : Grf} {id : Int} (h : grfE g = 0) (h2 : fhas g.nodes id = true) : doE g (goneOp id) = 0 ∧ doG g (goneOp id) = goneG g id := by
  have h0 : doE g (goneOp id) = 0 := by
    unfold doE
    rw [if_pos h]
    show (if fhas g.nodes id then (0 : Int) else 5) = 0
    rw [h2]; rfl
  exact ⟨h0, by unfold doG; rw [if_pos h0]; rfl⟩
theorem fact_gone : doE (manyG 2 1) (goneOp 2) = 0 ∧ (doG (manyG 2 1) (goneOp 2)).nodes.length = 1 ∧ (doG (manyG 2 1) (goneOp 2)).ties.length = 0 := by decide +kernel
def looseF (g : Grf) (t : Tie) : Bool := !(fhas g.nodes t.src) && !(fhas g.nodes t.dst)
def looseK (g : Grf) (k : Nat) : Nat := ((g.ties.take k).filter (looseF g)).length
theorem looseK_step {g : Grf} {k : Nat} {t : Tie} (h : g.ties[k]? = some t) : looseK g (k + 1) = looseK g k + (if looseF g t then 1 else 0) := by
  unfold looseK
  rw [take_snoc h, List.filter_append, List.length_append]
  rw [List.filter_cons, List.filter_nil]
  cases looseF g t <;> rfl
theorem looseK_le (g : Grf) (k : Nat) : looseK g k ≤ g.ties.length := by
  unfold looseK
  exact Nat.le_trans (List.length_filter_le _ _) (by simp; omega)
/-- What stands between two rounds: the graph of which the first nodes are gone lies in block Bo. -/
structure EmpI (w4 : World) (Bo : Nat) (wr : World) (vn vt : Value) (o : Grf) : Prop where
  b : Below w4.heap.size w4 wr
  q : wr.heap[Bo]? = some (.cells #[vn, vt] 29 (0, 0))
  r : GrfR wr vn vt o
set_option maxRecDepth 100000 in
set_option maxHeartbeats 16000000 in
theorem deltaEmpties_any (g : Grf) (vn vt : Value) (w : World) (hG : GrfR w vn vt g) :
    Calls Try.prog 6 #[.agg #[vn, vt]] w fun e w' => e = .returned (.bool true) ∧ Below w.heap.size w w' := by
  obtain ⟨An, cn, rfl, _, _⟩ := hG.1.form
  obtain ⟨At, ct, rfl, _, _⟩ := hG.2.form
  have hb0 : Below w.heap.size w (w.alloc (.cells #[.slice An g.nodes.length cn, .slice At g.ties.length ct] 29)) := (Below.refl _ _).alloc (Nat.le_refl _) _
  obtain ⟨z0, z1⟩ := cell_box2 w (.slice An g.nodes.length cn) (.slice At g.ties.length ct) 29
  have hG0 := hG.below hb0
  have hm := many_any 2 1 (w.alloc (.cells #[.slice An g.nodes.length cn, .slice At g.ties.length ct] 29)) (by omega) (by omega)
  have hw0 := hb0.size
  have HG0 := Lib.hid hG0
  clear hG hG0
  go_enter Try.func6, Try.ntmps6
  go_wp2_with fail
  generalize w.alloc (.cells #[.slice An g.nodes.length cn, .slice At g.ties.length ct] 29) = w0 at *
  refine hm.mono ?_
  clear hm
  rintro e w1 ⟨un, ut, rfl, hM, hb1⟩
  have hdo := Do_own (manyG 2 1) (goneOp 2) un ut (.slice none 0 0) w1 hM (goneOp_r 2 (by unfold I64; omega) w1)
  obtain ⟨f1, f2, f3⟩ := fact_gone
  obtain ⟨Au, cu, rfl, _, _⟩ := hM.1.form
  obtain ⟨Av, cv, rfl, _, _⟩ := hM.2.form
  clear hM
  go_wp2_with fail
  refine hdo.mono ?_
  clear hdo
  rintro e w2 ⟨on, ot, he, ⟨xs, ho⟩, hb2⟩
  rw [f1, errV_zero rfl] at he
  subst he
  obtain ⟨Ao, co, rfl, _, _⟩ := ho.n.form
  obtain ⟨Ap, cp, rfl, _, _⟩ := ho.t.form
  rw [f2, f3]
  have hB2 := hb1.trans (hb2.mono hb1.size)
  have hb3 : Below w2.heap.size w2 (w2.alloc (.cells #[.slice Ao 1 co, .slice Ap 0 cp] 29)) := (Below.refl _ _).alloc (Nat.le_refl _) _
  have hB3 := hB2.trans (hb3.mono hB2.size)
  have y0 := cell_below hB3 z0
  have y1 := cell_below hB3 z1
  have hck := grfCheck_any g _ _ _ (HG0.out.below hB3)
  clear f1 f2 f3 ho hb1 hb2 hb3 hB2
  go_wp2_with fail
  refine hck.mono ?_
  clear hck
  rintro e w4 ⟨rfl, hb4⟩
  have hB4 := hB3.trans (hb4.mono hB3.size)
  have z0 := cell_below hB4 z0
  have z1 := cell_below hB4 z1
  clear y0 y1 hB3 hb4
  by_cases he : grfE g = 0
  case neg =>
    rw [errV_some he]
    clear he
    go_wp2_with fail
    go_ret
    exact ⟨rfl, hb0.trans (hB4.mono hw0)⟩
  have HE := Lib.hid he
  have hN : ∀ id, nodeE g id = if fhas g.nodes id then 0 else 5 := fun id => by unfold nodeE; rw [if_pos he]
  have HN := Lib.hid hN
  obtain ⟨h60, h120, _, _⟩ := grf_ok he
  rw [errV_zero he]
  have HBB := Lib.hid (hb0.trans (hB4.mono hw0))
  have HG4 := Lib.hid (HG0.out.below hB4)
  have hn60 : (g.nodes.length : Int) ≤ 60 := by omega
  have ht120 : (g.ties.length : Int) ≤ 120 := by omega
  have hw4 := hB4.size
  have hgl := World.block_lt_of_cell? _ _ z0
  clear he hN hB4 HG0
  go_wp2_with fail
  go_loopw [5, 6] (fun l i wr => ∃ k : Nat, k ≤ g.ties.length ∧ l = .int .i64 (looseK g k) ∧ i = .int .i64 k ∧ Below w4.heap.size w4 wr) (fun _ i _ => g.ties.length - (intOf i).toNat)
  case atStart => exact ⟨0, Nat.zero_le _, rfl, rfl, Below.refl _ _⟩
  case round =>
    obtain ⟨k, hk, rfl, rfl, hb⟩ := hrel
    have Z0 := Lib.hid z0
    have Z1 := Lib.hid z1
    clear z0 z1
    have y0 := cell_below hb Z0.out
    have y1 := cell_below hb Z1.out
    by_cases hlt : k < g.ties.length
    · obtain ⟨t, ht⟩ : ∃ d, g.ties[k]? = some d := ⟨_, List.getElem?_eq_getElem hlt⟩
      have hlt' : (k : Int) < (g.ties.length : Int) := by omega
      have hlk : (looseK g k : Int) ≤ 120 := by have := looseK_le g k; omega
      have HL : Hid (looseK g (k + 1) = looseK g k + (if looseF g t then 1 else 0)) := looseK_step ht
      have HLF : Hid (looseF g t = (!(fhas g.nodes t.src) && !(fhas g.nodes t.dst))) := rfl
      obtain ⟨bt, ot, rfl, htok, i0, i1, i2⟩ := tie_at HG4.out.2 ht
      have E0 := Lib.hid i0
      have E1 := Lib.hid i1
      have E2 := Lib.hid i2
      clear ht i0 i1 i2
      have e0 := cell_below hb E0.out
      have e1 := cell_below hb E1.out
      have e2 := cell_below hb E2.out
      have hbq := hb
      generalize looseK g k = L at *
      have hx0 : Below wr.heap.size wr (wr.alloc (.cells #[.int .i64 0, .string ⟨#[]⟩, .slice none 0 0] 33)) := (Below.refl _ _).alloc (Nat.le_refl _) _
      have hc1 := gnode_any g t.src (.slice An g.nodes.length cn) (.slice (some ⟨bt, ot, none⟩) g.ties.length ct) wr.drew ((HG4.out.below hbq).below (Below.refl _ _).drew)
      have hc2 := gnode_any g t.src (.slice An g.nodes.length cn) (.slice (some ⟨bt, ot, none⟩) g.ties.length ct) (wr.alloc (.cells #[.int .i64 0, .string ⟨#[]⟩, .slice none 0 0] 33)).drew (((HG4.out.below hbq).below hx0).below (Below.refl _ _).drew)
      have v0 := cell_below hx0 y0
      have v1 := cell_below hx0 y1
      have v2 := cell_below hx0 e0
      have v3 := cell_below hx0 e1
      have v4 := cell_below hx0 e2
      have hqs := hbq.size
      go_upto_region 10 with fail
      go_cut [7, 8] from 39 to 75 (fun _ z wx => z = errV (nodeE g t.src) ∧ Below w4.heap.size w4 wx)
      case first =>
        go_region_law
          (first
            | (refine step_callx rfl 22 #[.agg #[.slice An g.nodes.length cn, .slice (some ⟨bt, ot, none⟩) g.ties.length ct], .int .i64 t.src] (by kernel_rfl) hc1 ?_
               rintro e w5 ⟨u5, rfl, hu5, hb5⟩
               refine ⟨_, rfl, ?_⟩
               obtain ⟨A5, c5, rfl, _, _⟩ := hu5.form
               have hb5' := (Below.refl wr.heap.size wr).drew.trans hb5
               have hfin : Below w4.heap.size w4 (w5.alloc (.cells #[.int .i64 (nodeR g t.src).id, .string (nodeR g t.src).kind, .slice A5 (nodeR g t.src).props.length c5] 33)) := (hbq.trans (hb5'.mono hbq.size)).alloc (by have := hb5'.size; omega) _)
            | (refine step_callx rfl 22 #[.agg #[.slice An g.nodes.length cn, .slice (some ⟨bt, ot, none⟩) g.ties.length ct], .int .i64 t.src] (by kernel_rfl) hc2 ?_
               rintro e w5 ⟨u5, rfl, hu5, hb5⟩
               refine ⟨_, rfl, ?_⟩
               obtain ⟨A5, c5, rfl, _, _⟩ := hu5.form
               have hb5' := hx0.drew.trans (hb5.mono hx0.drew.size)
               have hN7 := (hb5.block wr.heap.size (by show wr.heap.size < (wr.alloc _).heap.size; simp)).trans (heap_alloc_new wr _)
               have a0 := block_free hN7 0
               have a1 := block_free hN7 1
               have a2 := block_free hN7 2
               have a3 := block_cell hN7 0
               have a4 := block_cell hN7 1
               have a5 := block_cell hN7 2
               have hfin : Below w4.heap.size w4 (((w5.setCell ⟨wr.heap.size, 0, none⟩ (.int .i64 (nodeR g t.src).id)).setCell ⟨wr.heap.size, 1, none⟩ (.string (nodeR g t.src).kind)).setCell ⟨wr.heap.size, 2, none⟩ (.slice A5 (nodeR g t.src).props.length c5)) :=
                 (((hbq.trans (hb5'.mono hbq.size)).setCell (p := ⟨wr.heap.size, 0, none⟩) hqs _).setCell (p := ⟨wr.heap.size, 1, none⟩) hqs _).setCell (p := ⟨wr.heap.size, 2, none⟩) hqs _))
        all_goals
          clear hu5 hb5 hb5'
          go_wp2_with fail
          go_meet
          exact ⟨rfl, hfin⟩
      case rest =>
      obtain ⟨rfl, hbc⟩ := hcut
      clear hbq hc1 hc2 v0 v1 v2 v3 v4 hqs hx0 y0 y1 e0 e1 e2
      have hbq := hbc
      have y0 := cell_below hbc Z0.out
      have y1 := cell_below hbc Z1.out
      have e0 := cell_below hbc E0.out
      have e1 := cell_below hbc E1.out
      have e2 := cell_below hbc E2.out
      have hx0 : Below wc.heap.size wc (wc.alloc (.cells #[.int .i64 0, .string ⟨#[]⟩, .slice none 0 0] 33)) := (Below.refl _ _).alloc (Nat.le_refl _) _
      have hc1 := gnode_any g t.dst (.slice An g.nodes.length cn) (.slice (some ⟨bt, ot, none⟩) g.ties.length ct) wc.drew ((HG4.out.below hbq).below (Below.refl _ _).drew)
      have hc2 := gnode_any g t.dst (.slice An g.nodes.length cn) (.slice (some ⟨bt, ot, none⟩) g.ties.length ct) (wc.alloc (.cells #[.int .i64 0, .string ⟨#[]⟩, .slice none 0 0] 33)).drew (((HG4.out.below hbq).below hx0).below (Below.refl _ _).drew)
      have v0 := cell_below hx0 y0
      have v1 := cell_below hx0 y1
      have v2 := cell_below hx0 e0
      have v3 := cell_below hx0 e1
      have v4 := cell_below hx0 e2
      have hqs := hbq.size
      go_upto_region 11 with fail
      go_cut [9, 10] from 39 to 75 (fun _ z wx => z = errV (nodeE g t.dst) ∧ Below w4.heap.size w4 wx)
      case first =>
        go_region_law
          (first
            | (refine step_callx rfl 22 #[.agg #[.slice An g.nodes.length cn, .slice (some ⟨bt, ot, none⟩) g.ties.length ct], .int .i64 t.dst] (by kernel_rfl) hc1 ?_
               rintro e w5 ⟨u5, rfl, hu5, hb5⟩
               refine ⟨_, rfl, ?_⟩
               obtain ⟨A5, c5, rfl, _, _⟩ := hu5.form
               have hb5' := (Below.refl wc.heap.size wc).drew.trans hb5
               have hfin : Below w4.heap.size w4 (w5.alloc (.cells #[.int .i64 (nodeR g t.dst).id, .string (nodeR g t.dst).kind, .slice A5 (nodeR g t.dst).props.length c5] 33)) := (hbq.trans (hb5'.mono hbq.size)).alloc (by have := hb5'.size; omega) _)
            | (refine step_callx rfl 22 #[.agg #[.slice An g.nodes.length cn, .slice (some ⟨bt, ot, none⟩) g.ties.length ct], .int .i64 t.dst] (by kernel_rfl) hc2 ?_
               rintro e w5 ⟨u5, rfl, hu5, hb5⟩
               refine ⟨_, rfl, ?_⟩
               obtain ⟨A5, c5, rfl, _, _⟩ := hu5.form
               have hb5' := hx0.drew.trans (hb5.mono hx0.drew.size)
               have hN7 := (hb5.block wc.heap.size (by show wc.heap.size < (wc.alloc _).heap.size; simp)).trans (heap_alloc_new wc _)
               have a0 := block_free hN7 0
               have a1 := block_free hN7 1
               have a2 := block_free hN7 2
               have a3 := block_cell hN7 0
               have a4 := block_cell hN7 1
               have a5 := block_cell hN7 2
               have hfin : Below w4.heap.size w4 (((w5.setCell ⟨wc.heap.size, 0, none⟩ (.int .i64 (nodeR g t.dst).id)).setCell ⟨wc.heap.size, 1, none⟩ (.string (nodeR g t.dst).kind)).setCell ⟨wc.heap.size, 2, none⟩ (.slice A5 (nodeR g t.dst).props.length c5)) :=
                 (((hbq.trans (hb5'.mono hbq.size)).setCell (p := ⟨wc.heap.size, 0, none⟩) hqs _).setCell (p := ⟨wc.heap.size, 1, none⟩) hqs _).setCell (p := ⟨wc.heap.size, 2, none⟩) hqs _))
        all_goals
          clear hu5 hb5 hb5'
          go_wp2_with fail
          go_meet
          exact ⟨rfl, hfin⟩
      case rest =>
      obtain ⟨rfl, hbd⟩ := hcut
      clear hbq hc1 hc2 v0 v1 v2 v3 v4 hqs hx0 y0 y1 e0 e1 e2
      have hm1 : errV (nodeE g t.src) = if fhas g.nodes t.src then .nilIface else .iface 23 (.int .i64 5) := by rw [HN.out]; split <;> rfl
      have hm2 : errV (nodeE g t.dst) = if fhas g.nodes t.dst then .nilIface else .iface 23 (.int .i64 5) := by rw [HN.out]; split <;> rfl
      rw [hm1, hm2]
      clear hm1 hm2
      generalize fhas g.nodes t.src = q1 at *
      generalize fhas g.nodes t.dst = q2 at *
      cases q1 <;> cases q2
      all_goals
        simp only [if_true, if_false, Bool.false_eq_true]
        have HL2 := HL.out
        rw [HLF.out] at HL2
        have HL3 := Lib.hid HL2
        clear HL2 HL HLF
        go_wp2_with fail
        go_roundw
        case rel => exact ⟨k + 1, by omega, by rw [HL3.out]; go_num, by go_num, hbd⟩
        case measure => simp [intOf]; omega
    · obtain rfl : k = g.ties.length := by omega
      have HLN : Hid (looseK g g.ties.length = looseN g) := by unfold Hid looseK looseN; rw [List.take_length]; rfl
      have hln : (looseN g : Int) ≤ 120 := by have := looseK_le g g.ties.length; rw [HLN.out] at this; omega
      rw [HLN.out]
      have HCA := Lib.hid (cut_all HE.out)
      have HCR : Hid (∀ k, grfE (cutG g k) = 0) := fun k => cut_right HE.out k
      have HC0 : Hid (cutG g 0 = g) := cut_zero g
      have HCS : Hid (∀ k n, g.nodes[k]? = some n → goneG (cutG g k) n.id = cutG g (k + 1) ∧ fhas (cutG g k).nodes n.id = true) := fun k n hd => cut_step hd
      have hwr := hb.size
      have HB := Lib.hid hb
      have hGr := HG4.out.below hb
      have hbx : Below wr.heap.size wr (wr.alloc (.cells #[.slice An g.nodes.length cn, .slice At g.ties.length ct] 29)) := (Below.refl _ _).alloc (Nat.le_refl _) _
      have hI0 : EmpI w4 wr.heap.size (wr.alloc (.cells #[.slice An g.nodes.length cn, .slice At g.ties.length ct] 29)) (.slice An g.nodes.length cn) (.slice At g.ties.length ct) (cutG g 0) :=
        ⟨hb.alloc hwr _, heap_alloc_new _ _, by rw [HC0.out]; exact hGr.below hbx⟩
      have HI0 := Lib.hid hI0
      obtain ⟨Bo, hBo⟩ : ∃ Bo, Bo = wr.heap.size := ⟨_, rfl⟩
      have hBo4 : w4.heap.size ≤ Bo := by omega
      obtain ⟨zb0, zb1⟩ := cell_box2 wr (.slice An g.nodes.length cn) (.slice At g.ties.length ct) 29
      clear hGr hb hbx hI0
      go_wp2_with fail
      rw [← hBo] at HI0 zb0 zb1 ⊢
      clear hBo
      go_loopw [12] (fun i wr => ∃ (k : Nat) (vn vt : Value), k ≤ g.nodes.length ∧ i = .int .i64 k ∧ EmpI w4 Bo wr vn vt (cutG g k)) (fun i _ => g.nodes.length - (intOf i).toNat)
      case atStart => exact ⟨0, _, _, Nat.zero_le _, rfl, HI0.out⟩
      case round =>
        clear HI0 zb0 zb1
        obtain ⟨k, vn, vt, hk, rfl, hI⟩ := hrel
        have HI := Lib.hid hI
        have hb := hI.b
        have y0 := cell_below hb Z0.out
        have y1 := cell_below hb Z1.out
        obtain ⟨Av, cv1, rfl, _, _⟩ := hI.r.1.form
        obtain ⟨Aw, cw1, rfl, _, _⟩ := hI.r.2.form
        have x0 := block_cell hI.q 0
        have x1 := block_cell hI.q 1
        have hBl := (Array.getElem?_eq_some_iff.1 hI.q).1
        clear hI
        by_cases hlt : k < g.nodes.length
        · obtain ⟨d, hd⟩ : ∃ d, g.nodes[k]? = some d := ⟨_, List.getElem?_eq_getElem hlt⟩
          have hlt' : (k : Int) < (g.nodes.length : Int) := by omega
          obtain ⟨bt, ot, rfl, u, hid, hkd, hpr, e0, e1, e2⟩ := nod_at (HG4.out.below hb).1 hd
          obtain ⟨hcs1, hcs2⟩ := HCS.out k d hd
          obtain ⟨hd1, hd2⟩ := goneOp_do (HCR.out k) hcs2
          rw [hcs1] at hd2
          have hx0 : Below wr.heap.size wr (wr.alloc (.cells #[.slice none 0 0, .slice none 0 0] 29)) := (Below.refl _ _).alloc (Nat.le_refl _) _
          have hc1 := Do_own (cutG g k) (goneOp d.id) _ _ (.slice none 0 0) wr.drew (HI.out.r.below (Below.refl _ _).drew) (goneOp_r d.id hid wr.drew)
          have hc2 := Do_own (cutG g k) (goneOp d.id) _ _ (.slice none 0 0) (wr.alloc (.cells #[.slice none 0 0, .slice none 0 0] 29)).drew ((HI.out.r.below hx0).below (Below.refl _ _).drew) (goneOp_r d.id hid _)
          rw [hd1, hd2] at hc1 hc2
          generalize hn1 : (cutG g k).nodes.length = n1 at *
          generalize hn2 : (cutG g k).ties.length = n2 at *
          have v0 := cell_below hx0 y0
          have v1 := cell_below hx0 y1
          have v2 := cell_below hx0 x0
          have v3 := cell_below hx0 x1
          have v4 := cell_below hx0 e0
          have hq : wr.heap[Bo]? = some (.cells #[.slice Av n1 cv1, .slice Aw n2 cw1] 29 (0, 0)) := HI.out.q
          have hqs := hb.size
          clear hd hcs1 hcs2 hd1 hd2 hpr
          have hc1' : Calls Try.prog 20 #[.agg #[.slice Av n1 cv1, .slice Aw n2 cw1], .agg #[.int .i64 2, .int .i64 d.id, .string ⟨#[]⟩, .slice none 0 0, .string ⟨#[]⟩, .int .i64 0, .int .i64 0, .string ⟨#[]⟩, .string ⟨#[]⟩, .int .i64 0, .int .i64 0]] wr.drew (RetGO (cutG g (k + 1)) 0 wr.drew) := hc1
          have hc2' : Calls Try.prog 20 #[.agg #[.slice Av n1 cv1, .slice Aw n2 cw1], .agg #[.int .i64 2, .int .i64 d.id, .string ⟨#[]⟩, .slice none 0 0, .string ⟨#[]⟩, .int .i64 0, .int .i64 0, .string ⟨#[]⟩, .string ⟨#[]⟩, .int .i64 0, .int .i64 0]] (wr.alloc (.cells #[.slice none 0 0, .slice none 0 0] 29)).drew (RetGO (cutG g (k + 1)) 0 (wr.alloc (.cells #[.slice none 0 0, .slice none 0 0] 29)).drew) := hc2
          clear hc1 hc2
          go_upto_region 18 with fail
          go_cut [13, 14] from 77 to 99 (fun p z wx => ∃ (b : Nat) (A4 : Option Addr) (n4 c4 : Nat) (A5 : Option Addr) (n5 c5 : Nat) (xs : List Value) (B : Nat), p = .pointer (some ⟨b, 0, none⟩) ∧ z = .nilIface ∧ wx.heap[b]? = some (.cells #[.slice A4 n4 c4, .slice A5 n5 c5] 29 (0, 0)) ∧
            wx.heap[Bo]? = some (.cells #[.slice Av n1 cv1, .slice Aw n2 cw1] 29 (0, 0)) ∧ OwnG wx B (.slice A4 n4 c4) (.slice A5 n5 c5) (cutG g (k + 1)) xs ∧ Below w4.heap.size w4 wx)
          case first =>
            go_region_law
              (first
                | (refine step_callx rfl 20 #[.agg #[.slice Av n1 cv1, .slice Aw n2 cw1], .agg #[.int .i64 2, .int .i64 d.id, .string ⟨#[]⟩, .slice none 0 0, .string ⟨#[]⟩, .int .i64 0, .int .i64 0, .string ⟨#[]⟩, .string ⟨#[]⟩, .int .i64 0, .int .i64 0]] (by kernel_rfl) hc1' ?_
                   rintro e w5 ⟨un, ut, rfl, ⟨xs5, ho5⟩, hb5⟩
                   refine ⟨_, rfl, ?_⟩
                   obtain ⟨A4, c4, rfl, _, _⟩ := ho5.n.form
                   obtain ⟨A5, c5, rfl, _, _⟩ := ho5.t.form
                   have hb5' := (Below.refl wr.heap.size wr).drew.trans hb5
                   have hs5 := hb5'.size
                   have hx5 : Below w5.heap.size w5 (w5.alloc (.cells #[.slice A4 (cutG g (k + 1)).nodes.length c4, .slice A5 (cutG g (k + 1)).ties.length c5] 29)) := (Below.refl _ _).alloc (Nat.le_refl _) _
                   have hfin := And.intro (heap_alloc_new w5 (.cells #[.slice A4 (cutG g (k + 1)).nodes.length c4, .slice A5 (cutG g (k + 1)).ties.length c5] 29)) (And.intro ((hx5.block _ (by omega)).trans ((hb5'.block _ hBl).trans hq)) (And.intro (ho5.below hx5) ((hb.trans (hb5'.mono hb.size)).trans (hx5.mono (by omega))))))
                | (refine step_callx rfl 20 #[.agg #[.slice Av n1 cv1, .slice Aw n2 cw1], .agg #[.int .i64 2, .int .i64 d.id, .string ⟨#[]⟩, .slice none 0 0, .string ⟨#[]⟩, .int .i64 0, .int .i64 0, .string ⟨#[]⟩, .string ⟨#[]⟩, .int .i64 0, .int .i64 0]] (by kernel_rfl) hc2' ?_
                   rintro e w5 ⟨un, ut, rfl, ⟨xs5, ho5⟩, hb5⟩
                   refine ⟨_, rfl, ?_⟩
                   obtain ⟨A4, c4, rfl, _, _⟩ := ho5.n.form
                   obtain ⟨A5, c5, rfl, _, _⟩ := ho5.t.form
                   have hb5' := hx0.drew.trans (hb5.mono hx0.drew.size)
                   have hN7 : w5.heap[wr.heap.size]? = some (.cells #[.slice none 0 0, .slice none 0 0] 29 (0, 0)) := (hb5.block wr.heap.size (by show wr.heap.size < (wr.alloc _).heap.size; simp)).trans (heap_alloc_new wr _)
                   have a0 := block_free hN7 0
                   have a1 := block_free hN7 1
                   have a3 := block_cell hN7 0
                   have a4 := block_cell hN7 1
                   have hN8 := setCell_block hN7 0 (.slice A4 (cutG g (k + 1)).nodes.length c4)
                   have hN9 := setCell_block hN8 1 (.slice A5 (cutG g (k + 1)).ties.length c5)
                   have hSS : ∀ T, 29 ≠ T → Same T w5 ((w5.setCell ⟨wr.heap.size, 0, none⟩ (.slice A4 (cutG g (k + 1)).nodes.length c4)).setCell ⟨wr.heap.size, 1, none⟩ (.slice A5 (cutG g (k + 1)).ties.length c5)) := fun T hT => (Same.setCell (p := ⟨wr.heap.size, 0, none⟩) hN7 hT _).trans (Same.setCell (p := ⟨wr.heap.size, 1, none⟩) hN8 hT _)
                   have hfin := And.intro hN9 (And.intro (show ((w5.setCell ⟨wr.heap.size, 0, none⟩ (.slice A4 (cutG g (k + 1)).nodes.length c4)).setCell ⟨wr.heap.size, 1, none⟩ (.slice A5 (cutG g (k + 1)).ties.length c5)).heap[Bo]? = some (.cells #[.slice Av n1 cv1, .slice Aw n2 cw1] 29 (0, 0)) by
                     rw [Below.heap_setCell _ _ _ _ (by show Bo ≠ wr.heap.size; omega), Below.heap_setCell _ _ _ _ (by show Bo ≠ wr.heap.size; omega)]; exact (hb5'.block _ hBl).trans hq)
                     (And.intro (ho5.same (hSS _ (by decide)) (hSS _ (by decide)) (hSS _ (by decide))) (((hb.trans (hb5'.mono hb.size)).setCell (p := ⟨wr.heap.size, 0, none⟩) hqs (.slice A4 (cutG g (k + 1)).nodes.length c4)).setCell (p := ⟨wr.heap.size, 1, none⟩) hqs (.slice A5 (cutG g (k + 1)).ties.length c5))))
                   clear hN7 hN8 hN9 hSS))
            all_goals
              clear ho5 hb5 hb5'
              go_wp2_with fail
              go_meet
              exact ⟨_, _, _, _, _, _, _, _, _, rfl, rfl, hfin.1, hfin.2.1, hfin.2.2.1, hfin.2.2.2⟩
          case rest =>
          obtain ⟨b, A4, n4, c4, A5, n5, c5, xs5, B5, rfl, rfl, hp1, hp2, hp3, hp4⟩ := hcut
          clear y0 y1 x0 x1 e0 e1 e2 v0 v1 v2 v3 v4 hq hx0 hc1' hc2'
          have x0 := block_cell hp1 0
          have x1 := block_cell hp1 1
          have f0 := block_free hp2 0
          have f1 := block_free hp2 1
          have f2 := block_cell hp2 0
          have f3 := block_cell hp2 1
          have p8 := setCell_block hp2 0 (.slice A4 n4 c4)
          have p9 := setCell_block p8 1 (.slice A5 n5 c5)
          have hSS : ∀ T, 29 ≠ T → Same T wc ((wc.setCell ⟨Bo, 0, none⟩ (.slice A4 n4 c4)).setCell ⟨Bo, 1, none⟩ (.slice A5 n5 c5)) := fun T hT => (Same.setCell (p := ⟨Bo, 0, none⟩) hp2 hT _).trans (Same.setCell (p := ⟨Bo, 1, none⟩) p8 hT _)
          have HN : Hid (EmpI w4 Bo ((wc.setCell ⟨Bo, 0, none⟩ (.slice A4 n4 c4)).setCell ⟨Bo, 1, none⟩ (.slice A5 n5 c5)) (.slice A4 n4 c4) (.slice A5 n5 c5) (cutG g (k + 1))) :=
            ⟨(hp4.setCell (p := ⟨Bo, 0, none⟩) hBo4 _).setCell (p := ⟨Bo, 1, none⟩) hBo4 _, p9, (hp3.same (hSS _ (by decide)) (hSS _ (by decide)) (hSS _ (by decide))).r⟩
          clear hp1 hp2 hp3 p8 p9 hSS
          go_wp2_with fail
          go_roundw
          case rel => exact ⟨k + 1, _, _, by omega, by go_num, HN.out⟩
          case measure => simp [intOf]; omega
        · obtain rfl : k = g.nodes.length := by omega
          obtain ⟨hca1, hca2⟩ := HCA.out
          have hl0 : (cutG g g.nodes.length).nodes.length = 0 := by rw [hca1]; rfl
          rw [hl0] at x0
          rw [hca2] at x1
          generalize looseN g = L at *
          clear hca1 hca2 hl0
          go_wp2_with fail
          go_ret
          exact ⟨rfl, HBB.out.trans (hb.mono (by omega))⟩
end Go.Proofs.Ytdfeloeainabjaa
