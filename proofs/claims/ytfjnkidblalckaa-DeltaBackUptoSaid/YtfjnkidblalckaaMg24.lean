/- Parts: DBack. -/
import Derived.Test.YtfjnkidblalckaaMg22
import Derived.Test.YtfjnkidblalckaaMg23
import Derived.Deep.DeepCutAuto
import Derived.Deep.CutBlock
import Derived.Deep.RegionHeld3
/- Contract: the law DeltaBack answers true. -/
namespace Go.Proofs.Ytfjnkidblalckaa
open Go Go.RowKit

/-- A graph that stays where a graph's box is written: the call's own, or one that was there before. -/
def Held (WB : World) (wr : World) (vn vt : Value) (g : Grf) : Prop := (∃ B xs, OwnG wr B vn vt g xs) ∨ GrfR WB vn vt g
theorem Held.r {WB wr : World} {vn vt : Value} {g : Grf} (h : Held WB wr vn vt g) (hb : Below WB.heap.size WB wr) : GrfR wr vn vt g := by
  rcases h with ⟨B, xs, h⟩ | h
  · exact h.r
  · exact h.below hb
theorem Held.below {WB wr wx : World} {vn vt : Value} {g : Grf} (h : Held WB wr vn vt g) (hb : Below wr.heap.size wr wx) : Held WB wx vn vt g := by
  rcases h with ⟨B, xs, h⟩ | h
  · exact .inl ⟨B, xs, h.below hb⟩
  · exact .inr h
theorem Held.set {WB wr : World} {vn vt : Value} {g : Grf} (h : Held WB wr vn vt g) {b : Nat} {c : Array Value} {fr : Nat × Nat} (hb : wr.heap[b]? = some (.cells c 25 fr)) (i : Nat) (u : Value) : Held WB (wr.setCell ⟨b, i, none⟩ u) vn vt g := by
  have hS : ∀ T, 25 ≠ T → Same T wr (wr.setCell ⟨b, i, none⟩ u) := fun T hT => Same.setCell (p := ⟨b, i, none⟩) hb hT _
  rcases h with ⟨B, xs, h⟩ | h
  · exact .inl ⟨B, xs, h.same (hS _ (by decide)) (hS _ (by decide)) (hS _ (by decide))⟩
  · exact .inr h
theorem OpsW.set {B : Nat} {w : World} {v : Value} {l : List Opr} {xs : List Value} (h : OpsW B w v l xs) {b : Nat} {c : Array Value} {fr : Nat × Nat} (hb : w.heap[b]? = some (.cells c 25 fr)) (i : Nat) (u : Value) : OpsW B (w.setCell ⟨b, i, none⟩ u) v l xs :=
  ⟨h.o.same (Same.setCell (p := ⟨b, i, none⟩) hb (by decide) _), h.r.same (Same.setCell (p := ⟨b, i, none⟩) hb (by decide) _), by simpa [World.setCell] using h.b⟩
/-- A graph in a box of its own. -/
def BoxG (w : World) (b : Nat) (g : Grf) (wx : World) : Prop := ∃ vn vt, wx.heap[b]? = some (.cells #[vn, vt] 25 (0, 0)) ∧ (∃ B xs, OwnG wx B vn vt g xs) ∧ w.heap.size ≤ b ∧ Below w.heap.size w wx
theorem BoxG.late {w w3 : World} {g : Grf} {vn vt : Value} {B : Nat} {xs : List Value} (h : Below w.heap.size w w3) (hr : OwnG w3 B vn vt g xs) : BoxG w w3.heap.size g (w3.alloc (.cells #[vn, vt] 25)) :=
  ⟨vn, vt, heap_alloc_new _ _, ⟨B, xs, hr.below ((Below.refl _ _).alloc (Nat.le_refl _) _)⟩, h.size, h.alloc h.size _⟩
theorem BoxG.soon {w w3 : World} {g : Grf} {vn vt c0 c1 : Value} {b B : Nat} {xs : List Value} (h : Below w.heap.size w w3) (hb : w.heap.size ≤ b) (hq : w3.heap[b]? = some (.cells #[c0, c1] 25 (0, 0))) (hr : OwnG w3 B vn vt g xs) :
    BoxG w b g ((w3.setCell ⟨b, 0, none⟩ vn).setCell ⟨b, 1, none⟩ vt) := by
  have s0 := setCell_block hq 0 vn
  have hS : ∀ T, 25 ≠ T → Same T w3 ((w3.setCell ⟨b, 0, none⟩ vn).setCell ⟨b, 1, none⟩ vt) := fun T hT => (Same.setCell (p := ⟨b, 0, none⟩) hq hT _).trans (Same.setCell (p := ⟨b, 1, none⟩) s0 hT _)
  exact ⟨vn, vt, setCell_block s0 1 vt, ⟨B, xs, hr.same (hS _ (by decide)) (hS _ (by decide)) (hS _ (by decide))⟩, hb, (h.setCell (p := ⟨b, 0, none⟩) hb _).setCell (p := ⟨b, 1, none⟩) hb _⟩
theorem oneN_at (w : World) : GrfR ((w.alloc (.cells #[.int .i64 4, .string ⟨#[97]⟩, .slice none 0 0] 30)).alloc (.cells #[.slice (some ⟨w.heap.size, 0, none⟩) 1 1, .slice none 0 0] 25)) (.slice (some ⟨w.heap.size, 0, none⟩) 1 1) (.slice none 0 0) ⟨[fourN], []⟩ := by
  refine ⟨⟨_, 1, rfl, (by decide), (by unfold maxLen; omega), fun i d hi => ?_⟩, Sl.nil 0 (Nat.zero_le _) none⟩
  match i, hi with
  | 0, hi =>
    injection hi with e; subst e
    refine ⟨w.heap.size, 0, [.int .i64 4, .string ⟨#[97]⟩, .slice none 0 0], rfl, ⟨_, rfl, (by show I64 (4 : Int); unfold I64; omega), (by show 1 ≤ 1048576; omega), Sl.nil 0 (by unfold maxLen; omega) none⟩, fun j u hj => ?_⟩
    rw [((Below.refl _ _).alloc (Nat.le_refl _) _ : Below (w.alloc (.cells #[.int .i64 4, .string ⟨#[97]⟩, .slice none 0 0] 30)).heap.size _ _).cell (by simp), World.cell?_alloc_at _ _ _ _ (by simp)]
    simpa using hj
theorem same_facts (a b : Grf) (h : a = b) (h0 : grfE a = 0) : sameGE a b = 0 ∧ sameGR a b = true := by
  subst h
  have h1 : sameGE a a = 0 := by unfold sameGE; rw [if_pos h0, h0]
  exact ⟨h1, by unfold sameGR; rw [if_pos h1, decide_eq_true rfl]⟩
set_option maxRecDepth 100000 in
set_option maxHeartbeats 32000000 in
theorem deltaBack_any (g h : Grf) (l : List Opr) (vn vt un ut vl : Value) (w : World) (hg : GrfR w vn vt g) (hh : GrfR w un ut h) (hl : Sl oprL w vl l) :
    Calls Try.prog 3 #[.agg #[vn, vt], .agg #[un, ut], vl] w fun e w' => e = .returned (.bool true) ∧ Below w.heap.size w w' := by
  obtain ⟨A1, c1, rfl, _, _⟩ := hg.1.form
  obtain ⟨A2, c2, rfl, _, _⟩ := hg.2.form
  obtain ⟨A3, c3, rfl, _, _⟩ := hh.1.form
  obtain ⟨A4, c4, rfl, _, _⟩ := hh.2.form
  obtain ⟨Al, cl, rfl, _, _⟩ := hl.form
  obtain ⟨W0, hW0⟩ : ∃ W0, W0 = (w.alloc (.cells #[.slice A1 g.nodes.length c1, .slice A2 g.ties.length c2] 25)).alloc (.cells #[.slice A3 h.nodes.length c3, .slice A4 h.ties.length c4] 25) := ⟨_, rfl⟩
  have hb0 : Below w.heap.size w W0 := by rw [hW0]; exact ((Below.refl _ _).alloc (Nat.le_refl _) _).alloc (by simp) _
  have g0 : W0.heap[w.heap.size]? = some (.cells #[.slice A1 g.nodes.length c1, .slice A2 g.ties.length c2] 25 (0, 0)) := by
    rw [hW0, Below.heap_alloc _ _ _ (by simp)]; exact heap_alloc_new _ _
  have g1 : W0.heap[w.heap.size + 1]? = some (.cells #[.slice A3 h.nodes.length c3, .slice A4 h.ties.length c4] 25 (0, 0)) := by
    have := heap_alloc_new (w.alloc (.cells #[.slice A1 g.nodes.length c1, .slice A2 g.ties.length c2] 25)) (.cells #[.slice A3 h.nodes.length c3, .slice A4 h.ties.length c4] 25); rw [hW0]; simpa using this
  have hW0' := hW0.symm
  have hw0 := hb0.size
  have X0 := Lib.hid (block_cell g0 0)
  have X1 := Lib.hid (block_cell g0 1)
  have Y0 := Lib.hid (block_cell g1 0)
  have Y1 := Lib.hid (block_cell g1 1)
  have HG := Lib.hid (hg.below hb0)
  have HH := Lib.hid (hh.below hb0)
  have HL := Lib.hid (hl.below hb0)
  have hbN : Below W0.heap.size W0 ((W0.alloc (.cells #[.int .i64 4, .string ⟨#[97]⟩, .slice none 0 0] 30)).alloc (.cells #[.slice (some ⟨W0.heap.size, 0, none⟩) 1 1, .slice none 0 0] 25)) := ((Below.refl _ _).alloc (Nat.le_refl _) _).alloc (by simp) _
  have hx := diff_ops ⟨[], []⟩ ⟨[fourN], []⟩ (.slice none 0 0) (.slice none 0 0) (.slice (some ⟨W0.heap.size, 0, none⟩) 1 1) (.slice none 0 0) _ ⟨Sl.nil 0 (Nat.zero_le _) none, Sl.nil 0 (Nat.zero_le _) none⟩ (oneN_at W0)
  rw [show diffE ⟨[], []⟩ ⟨[fourN], []⟩ = 0 by decide +kernel, show diffR ⟨[], []⟩ ⟨[fourN], []⟩ = [newOpr fourN] from by unfold diffR; rw [if_pos (by decide +kernel)]; exact diff_fact] at hx
  obtain ⟨z0, z1⟩ := cell_box2 (W0.alloc (.cells #[.int .i64 4, .string ⟨#[97]⟩, .slice none 0 0] 30)) (.slice (some ⟨W0.heap.size, 0, none⟩) 1 1) (.slice none 0 0) 25
  simp only [World.size_alloc] at z0 z1
  unfold RetOps at hx
  clear hg hh hl hW0 g0 g1
  go_enter Try.func3, Try.ntmps3
  go_wp2_with fail
  clear hW0'
  refine hx.mono ?_
  clear hx z0 z1
  rintro e w1 ⟨v8, xs8, rfl, ho8, hb1⟩
  have hB1 := hbN.trans (hb1.mono hbN.size)
  obtain ⟨A8, c8, hv8, _, _⟩ := ho8.o.form
  subst hv8
  obtain ⟨b8, o8, vr8, rfl, _, hc8⟩ := opr_at ho8.sl (k := 0) (d := newOpr fourN) rfl
  have q0 : w1.cell? ⟨b8, o8, none⟩ = some (.int .i64 1) := by have := hc8 0 (.int .i64 1) rfl; simpa using this
  have q1 : w1.cell? ⟨b8, o8 + 1, none⟩ = some (.int .i64 4) := by have := hc8 1 (.int .i64 4) rfl; simpa using this
  clear hc8 ho8 hb1 hbN
  rw [errV_zero rfl]
  have x0 := cell_below hB1 X0.out
  have x1 := cell_below hB1 X1.out
  have y0 := cell_below hB1 Y0.out
  have y1 := cell_below hB1 Y1.out
  have hx := diff_ops g h _ _ _ _ w1 (HG.out.below hB1) (HH.out.below hB1)
  unfold RetOps at hx
  go_wp2_with fail
  refine hx.mono ?_
  clear hx q0 q1 x0 x1 y0 y1
  rintro e w2 ⟨v10, xs10, rfl, ho10, hb2⟩
  have hB2 := hB1.trans (hb2.mono hB1.size)
  obtain ⟨A10, c10, hv10, _, _⟩ := ho10.o.form
  subst hv10
  have HO10 := Lib.hid ho10
  have hB12 : W0.heap.size ≤ w1.heap.size := hB1.size
  clear ho10 hb2 hB1
  have HE10 := Lib.hid (diffE_parts g h)
  generalize diffE g h = de at *
  generalize diffR g h = dr at *
  go_upto_region 6 with fail
  go_cut [64, 11] (fun v ev wx => v = .bool (decide (de = 0)) ∧ ev = errV de ∧ wx = w2)
  case first =>
    by_cases hd : de = 0
    · have HDD := Lib.hid (And.intro (decide_eq_true hd) (errV_zero hd))
      rw [errV_zero hd]
      clear hd
      go_wp2_with fail
      go_meet
      exact ⟨by rw [HDD.out.1], by rw [HDD.out.2], rfl⟩
    · have HDD := Lib.hid (And.intro (decide_eq_false hd) (errV_some hd))
      rw [errV_some hd]
      clear hd
      go_wp2_with fail
      go_meet
      exact ⟨by rw [HDD.out.1], by rw [HDD.out.2], rfl⟩
  case rest =>
  obtain ⟨rfl, rfl, rfl⟩ := hcut
  obtain ⟨w2, rfl⟩ : ∃ x : World, x = wc := ⟨_, rfl⟩
  go_upto_if 64 with fail
  go_cut [11] (fun _ wx => Below w2.heap.size w2 wx)
  case first =>
    by_cases hd : de = 0
    case neg =>
      have hdd := decide_eq_false hd
      rw [hdd]
      clear hd
      go_wp2_with fail
      go_meet
      exact Below.refl _ _
    have hdd := decide_eq_true hd
    rw [hdd]
    have HR : Hid (grfE g = 0 ∧ grfE h = 0 ∧ dr = diffL g h) := by
      obtain ⟨p1, p2, p3⟩ := HE10.out
      by_cases h1 : grfE g = 0
      · by_cases h2 : grfE h = 0
        · exact ⟨h1, h2, (p3 h1 h2).2⟩
        · exact absurd ((p2 h1 h2).1.symm.trans hd) h2
      · exact absurd ((p1 h1).1.symm.trans hd) h1
    have hdr := HR.out.2.2
    subst hdr
    have x0 := cell_below hB2 X0.out
    have x1 := cell_below hB2 X1.out
    clear hd hdd HE10
    go_wp2_with fail
    have hq0 := heap_alloc_new w2 (.cells #[.slice A1 g.nodes.length c1, .slice A2 g.ties.length c2] 25)
    have hbs : Below w2.heap.size w2 (w2.alloc (.cells #[.slice A1 g.nodes.length c1, .slice A2 g.ties.length c2] 25)) := (Below.refl _ _).alloc (Nat.le_refl _) _
    have HH0 : Hid (Held w2 (w2.alloc (.cells #[.slice A1 g.nodes.length c1, .slice A2 g.ties.length c2] 25)) (.slice A1 g.nodes.length c1) (.slice A2 g.ties.length c2) (allG g ((diffL g h).take 0))) := .inr (by rw [List.take_zero]; exact HG.out.below hB2)
    have HO0 := Lib.hid (HO10.out.below hbs)
    have HR : Hid (grfE g = 0 ∧ grfE h = 0) := ⟨HR.out.1, HR.out.2.1⟩
    clear x0 x1 HO10
    -- ops one by one: 13: the loop's slot; w2: the graph's box's world; g, h: the graphs; 14, 15: the cut's slots; 11: the region that draws; .slice A10 (diffL g h).length c10: what the ops' slot holds; w1.heap.size: the bound B; dbend1: how it ends
    go_loopw [13] (fun i wr => ∃ (k : Nat) (vn vt : Value) (xs : List Value), k ≤ (diffL g h).length ∧ i = .int .i64 k ∧ wr.heap[(w2).heap.size]? = some (.cells #[vn, vt] 25 (0, 0)) ∧ Hid (Held w2 wr vn vt (allG g ((diffL g h).take k))) ∧ Below (w2).heap.size w2 wr ∧ Hid (OpsW w1.heap.size wr (.slice A10 (diffL g h).length c10) (diffL g h) xs)) (fun i _ => (diffL g h).length - (intOf i).toNat)
    case atStart => exact ⟨0, _, _, _, Nat.zero_le _, rfl, hq0, HH0, hbs, HO0⟩
    case round =>
      clear hq0 HH0 hbs HO0
      obtain ⟨k, vn, vt, xs, hk, rfl, hq, HHD, hbr, HOP⟩ := hrel
      have hgr := HHD.out.r hbr
      obtain ⟨An, cn, rfl, _, _⟩ := hgr.1.form
      obtain ⟨At, ct, rfl, _, _⟩ := hgr.2.form
      have x0 := block_cell hq 0
      have x1 := block_cell hq 1
      have HQ := Lib.hid hq
      have hbxs : (w2).heap.size < wr.heap.size := (Array.getElem?_eq_some_iff.1 hq).1
      by_cases hlt : k < (diffL g h).length
      · obtain ⟨⟨what, node, prop, tie⟩, hd⟩ : ∃ d, (diffL g h)[k]? = some d := ⟨_, List.getElem?_eq_getElem hlt⟩
        have hlt' : (k : Int) < ((diffL g h).length : Int) := by omega
        have hw1 : IntKind.i64.wrap ((k : Int) + 1) = (k : Int) + 1 := by
          obtain ⟨_, c9, hv9, h9, h10⟩ := HOP.out.o.form
          unfold maxLen at h10
          exact IntWalk.i64_in _ (by omega)
        obtain ⟨s1, s2⟩ := back_step HR.out.1 HR.out.2 hd
        obtain ⟨bo, oo, vr, hA, hor, hcells⟩ := opr_at HOP.out.sl hd
        subst hA
        obtain ⟨Ar, cr, hvr, _, _⟩ := hor.r.form
        have hvr : vr = .slice Ar node.props.length cr := hvr
        subst hvr
        have q0 : wr.cell? ⟨bo, oo + k * 11, none⟩ = some (.int .i64 what) := by have := hcells 0 (.int .i64 what) rfl; simpa using this
        have q1 : wr.cell? ⟨bo, oo + k * 11 + 1, none⟩ = some (.int .i64 node.id) := hcells 1 _ rfl
        have q2 : wr.cell? ⟨bo, oo + k * 11 + 2, none⟩ = some (.string node.kind) := hcells 2 _ rfl
        have q3 : wr.cell? ⟨bo, oo + k * 11 + 3, none⟩ = some (.slice Ar node.props.length cr) := hcells 3 _ rfl
        have q4 : wr.cell? ⟨bo, oo + k * 11 + 4, none⟩ = some (.string prop.name) := hcells 4 _ rfl
        have q5 : wr.cell? ⟨bo, oo + k * 11 + 5, none⟩ = some (.int .i64 prop.v.ty) := hcells 5 _ rfl
        have q6 : wr.cell? ⟨bo, oo + k * 11 + 6, none⟩ = some (.int .i64 prop.v.n) := hcells 6 _ rfl
        have q7 : wr.cell? ⟨bo, oo + k * 11 + 7, none⟩ = some (.string prop.v.s) := hcells 7 _ rfl
        have q8 : wr.cell? ⟨bo, oo + k * 11 + 8, none⟩ = some (.string tie.bond) := hcells 8 _ rfl
        have q9 : wr.cell? ⟨bo, oo + k * 11 + 9, none⟩ = some (.int .i64 tie.src) := hcells 9 _ rfl
        have q10 : wr.cell? ⟨bo, oo + k * 11 + 10, none⟩ = some (.int .i64 tie.dst) := hcells 10 _ rfl
        have HDO : Hid (∀ W, Below wr.heap.size wr W → Calls Try.prog 5 #[.agg #[.slice An (allG g ((diffL g h).take k)).nodes.length cn, .slice At (allG g ((diffL g h).take k)).ties.length ct], .agg #[.int .i64 what, .int .i64 node.id, .string node.kind, .slice Ar node.props.length cr, .string prop.name, .int .i64 prop.v.ty, .int .i64 prop.v.n, .string prop.v.s, .string tie.bond, .int .i64 tie.src, .int .i64 tie.dst]] W
            fun e w' => ∃ vn vt B xs, e = .returned (.tuple #[.agg #[vn, vt], .nilIface]) ∧ OwnG w' B vn vt (allG g ((diffL g h).take (k + 1))) xs ∧ Below W.heap.size W w') := fun W hW => by
          refine (Do_own _ ⟨what, node, prop, tie⟩ _ _ (.slice Ar node.props.length cr) W (hgr.below hW) (hor.below hW)).mono ?_
          rintro e w' ⟨a1, a2, h1, ⟨xs, h2⟩, h3⟩
          rw [s1, errV_zero rfl] at h1
          rw [s2] at h2
          exact ⟨a1, a2, _, xs, h1, h2, h3⟩
        obtain ⟨g2, hg2⟩ : ∃ g2, allG g ((diffL g h).take (k + 1)) = g2 := ⟨_, rfl⟩
        rw [hg2] at HDO
        have HG2 := Lib.hid hg2
        clear hg2
        have hbd : Below wr.heap.size wr wr.drew := (Below.refl _ _).drew
        have hbx : Below wr.heap.size wr (wr.alloc (.cells #[.slice none 0 0, .slice none 0 0] 25)).drew := ((Below.refl _ _).alloc (Nat.le_refl _) _).drew
        have hzx : ((wr.alloc (.cells #[.slice none 0 0, .slice none 0 0] 25)).drew).heap[wr.heap.size]? = some (.cells #[.slice none 0 0, .slice none 0 0] 25 (0, 0)) := heap_alloc_new wr _
        have hn1 : wr.heap.size ≠ (w2).heap.size := by omega
        have hn2 : wr.heap.size ≠ bo := by have : bo < wr.heap.size := World.block_lt_of_cell? _ _ q0; omega
        have hkeep := (And.intro (cell_below hbd x0) (And.intro (cell_below hbd x1) (And.intro (cell_below hbd q0) (And.intro (cell_below hbd q1) (And.intro (cell_below hbd q2) (And.intro (cell_below hbd q3) (And.intro (cell_below hbd q4) (And.intro (cell_below hbd q5) (And.intro (cell_below hbd q6) (And.intro (cell_below hbd q7) (And.intro (cell_below hbd q8) (And.intro (cell_below hbd q9) (cell_below hbd q10)))))))))))))
        clear hd hcells hor hgr s1 s2
        go_upto_region 11 with fail
        go_cut [14, 15] (fun p z wx => ∃ b, p = .pointer (some ⟨b, 0, none⟩) ∧ z = .nilIface ∧ BoxG wr b g2 wx)
        case first =>
          go_region_held3 (fun w' => w'.cell? ⟨(w2).heap.size, 0, none⟩ = some (.slice An (allG g ((diffL g h).take k)).nodes.length cn) ∧ w'.cell? ⟨(w2).heap.size, 1, none⟩ = some (.slice At (allG g ((diffL g h).take k)).ties.length ct) ∧ w'.cell? ⟨bo, oo + k * 11, none⟩ = some (.int .i64 what) ∧ w'.cell? ⟨bo, oo + k * 11 + 1, none⟩ = some (.int .i64 node.id) ∧ w'.cell? ⟨bo, oo + k * 11 + 2, none⟩ = some (.string node.kind) ∧ w'.cell? ⟨bo, oo + k * 11 + 3, none⟩ = some (.slice Ar node.props.length cr) ∧ w'.cell? ⟨bo, oo + k * 11 + 4, none⟩ = some (.string prop.name) ∧ w'.cell? ⟨bo, oo + k * 11 + 5, none⟩ = some (.int .i64 prop.v.ty) ∧ w'.cell? ⟨bo, oo + k * 11 + 6, none⟩ = some (.int .i64 prop.v.n) ∧ w'.cell? ⟨bo, oo + k * 11 + 7, none⟩ = some (.string prop.v.s) ∧ w'.cell? ⟨bo, oo + k * 11 + 8, none⟩ = some (.string tie.bond) ∧ w'.cell? ⟨bo, oo + k * 11 + 9, none⟩ = some (.int .i64 tie.src) ∧ w'.cell? ⟨bo, oo + k * 11 + 10, none⟩ = some (.int .i64 tie.dst))
            (first
              | exact hkeep
              | go_keep)
            (first
              | (go_at_call 5
                 first
                   | (refine (HDO.out _ hbd).mono ?_
                      rintro e w5 ⟨un5, ut5, B5, xs5, rfl, how5, hb5⟩
                      obtain ⟨A5, c5, rfl, _, _⟩ := how5.n.form
                      obtain ⟨A6, c6, rfl, _, _⟩ := how5.t.form
                      have hb25 := hbd.trans (hb5.mono hbd.size)
                      have hkeep := (And.intro (cell_below hb25 x0) (And.intro (cell_below hb25 x1) (And.intro (cell_below hb25 q0) (And.intro (cell_below hb25 q1) (And.intro (cell_below hb25 q2) (And.intro (cell_below hb25 q3) (And.intro (cell_below hb25 q4) (And.intro (cell_below hb25 q5) (And.intro (cell_below hb25 q6) (And.intro (cell_below hb25 q7) (And.intro (cell_below hb25 q8) (And.intro (cell_below hb25 q9) (cell_below hb25 q10)))))))))))))
                      have hfin := BoxG.late hb25 how5)
                   | (refine (HDO.out _ hbx).mono ?_
                      rintro e w5 ⟨un5, ut5, B5, xs5, rfl, how5, hb5⟩
                      obtain ⟨A5, c5, rfl, _, _⟩ := how5.n.form
                      obtain ⟨A6, c6, rfl, _, _⟩ := how5.t.form
                      have hb25 := hbx.trans (hb5.mono hbx.size)
                      have hz5 := (hb5.block _ (Array.getElem?_eq_some_iff.1 hzx).1).trans hzx
                      have a0 := block_free hz5 0
                      have a1 := block_free hz5 1
                      have a3 := block_cell hz5 0
                      have a4 := block_cell hz5 1
                      have hkeep := (And.intro (cell_below hb25 x0) (And.intro (cell_below hb25 x1) (And.intro (cell_below hb25 q0) (And.intro (cell_below hb25 q1) (And.intro (cell_below hb25 q2) (And.intro (cell_below hb25 q3) (And.intro (cell_below hb25 q4) (And.intro (cell_below hb25 q5) (And.intro (cell_below hb25 q6) (And.intro (cell_below hb25 q7) (And.intro (cell_below hb25 q8) (And.intro (cell_below hb25 q9) (cell_below hb25 q10)))))))))))))
                      have hfin := BoxG.soon hb25 (Nat.le_refl _) hz5 how5)))
          all_goals
            clear hkeep hb5 hb25 HDO hbd hbx hzx how5
            go_wp2_with fail
            go_meet
            exact ⟨_, rfl, rfl, hfin⟩
        case rest =>
        obtain ⟨b5, rfl, rfl, un5, ut5, hq5, ⟨B5, xs5, how5⟩, hbb, hb5⟩ := hcut
        obtain ⟨w5, rfl⟩ : ∃ x : World, x = wc := ⟨_, rfl⟩
        obtain ⟨A5, c5, rfl, _, _⟩ := how5.n.form
        obtain ⟨A6, c6, rfl, _, _⟩ := how5.t.form
        have hqx := (hb5.block _ (Array.getElem?_eq_some_iff.1 HQ.out).1).trans HQ.out
        have s0 := setCell_block hqx 0 (.slice A5 g2.nodes.length c5)
        have s1 := setCell_block s0 1 (.slice A6 g2.ties.length c6)
        have HE : Hid (∃ vn vt xs, ((w5.setCell ⟨(w2).heap.size, 0, none⟩ (.slice A5 g2.nodes.length c5)).setCell ⟨(w2).heap.size, 1, none⟩ (.slice A6 g2.ties.length c6)).heap[(w2).heap.size]? = some (.cells #[vn, vt] 25 (0, 0)) ∧ Hid (Held w2 ((w5.setCell ⟨(w2).heap.size, 0, none⟩ (.slice A5 g2.nodes.length c5)).setCell ⟨(w2).heap.size, 1, none⟩ (.slice A6 g2.ties.length c6)) vn vt (allG g ((diffL g h).take (k + 1)))) ∧
            Below (w2).heap.size w2 ((w5.setCell ⟨(w2).heap.size, 0, none⟩ (.slice A5 g2.nodes.length c5)).setCell ⟨(w2).heap.size, 1, none⟩ (.slice A6 g2.ties.length c6)) ∧ Hid (OpsW w1.heap.size ((w5.setCell ⟨(w2).heap.size, 0, none⟩ (.slice A5 g2.nodes.length c5)).setCell ⟨(w2).heap.size, 1, none⟩ (.slice A6 g2.ties.length c6)) (.slice (some ⟨bo, oo, none⟩) (diffL g h).length c10) (diffL g h) xs)) := by
          refine ⟨_, _, xs, s1, ?_, ((hbr.trans (hb5.mono hbr.size)).setCell (p := ⟨(w2).heap.size, 0, none⟩) (Nat.le_refl _) _).setCell (p := ⟨(w2).heap.size, 1, none⟩) (Nat.le_refl _) _, ((HOP.out.below hb5).set hqx 0 _).set s0 1 _⟩
          rw [HG2.out]
          have hh : Held w2 w5 (.slice A5 g2.nodes.length c5) (.slice A6 g2.ties.length c6) g2 := .inl ⟨B5, xs5, how5⟩
          exact (hh.set hqx 0 _).set s0 1 _
        have a0 := block_free hqx 0
        have a1 := block_free hqx 1
        have a2 := block_cell hqx 0
        have a3 := block_cell hqx 1
        have a4 := block_cell hq5 0
        have a5 := block_cell hq5 1
        clear hkeep hq5 how5 hbb hb5 hqx s0 s1 HG2 HQ HHD HOP HDO hbd hbx hzx hbr q0 q1 q2 q3 q4 q5 q6 q7 q8 q9 q10 x0 x1
        go_wp2_with fail
        go_roundw
        case rel =>
          obtain ⟨e1, e2, e3, e4, e5, e6, e7⟩ := HE.out
          exact ⟨k + 1, e1, e2, e3, by omega, by go_num, e4, e5, e6, e7⟩
        case measure => simp [intOf]; omega
      · obtain rfl : k = (diffL g h).length := by omega
        have hE := back_all HR.out.1 HR.out.2
        have hgr : GrfR wr (.slice An (allG g ((diffL g h).take (diffL g h).length)).nodes.length cn) (.slice At (allG g ((diffL g h).take (diffL g h).length)).ties.length ct) h := by
          have := hgr
          rw [hE] at this ⊢
          exact this
        rw [hE] at hgr x0 x1
        have h4 := same_facts h h rfl HR.out.2
        have hx := gsame_any h h _ _ _ _ wr hgr (HH.out.below (hB2.trans (hbr.mono hB2.size)))
        rw [h4.1, h4.2, errV_zero rfl] at hx
        have y0 := cell_below (hB2.trans (hbr.mono hB2.size)) Y0.out
        have y1 := cell_below (hB2.trans (hbr.mono hB2.size)) Y1.out
        clear hE hgr h4 hq HHD HOP HQ HR
        go_wp2_with fail
        refine hx.mono ?_
        clear hx x0 x1 y0 y1
        rintro e w6 ⟨rfl, hb6⟩
        have hfin := hbr.trans (hb6.mono hbr.size)
        clear hbr hb6
        go_wp2_with fail
        go_meet
        exact hfin
  case rest =>
  have hB3 := hB2.trans (hcut.mono hB2.size)
  obtain ⟨w2', rfl⟩ : ∃ x : World, x = wc := ⟨_, rfl⟩
  clear hcut hB2 HO10 HE10 hB12
  have x0 := cell_below hB3 X0.out
  have x1 := cell_below hB3 X1.out
  have hx := dall_any g l _ _ _ w2' (HG.out.below hB3) (HL.out.below hB3)
  unfold RetA at hx
  obtain ⟨p1, p2⟩ := turn_parts g l
  have P2 := Lib.hid p2
  have HTU : Hid (∀ W, Below W0.heap.size W0 W → Calls Try.prog 8 #[.agg #[.slice A1 g.nodes.length c1, .slice A2 g.ties.length c2], .slice Al l.length cl] W (RetOps (turnR g l) (dallE g l) W)) := fun W hW => turn_ops g l _ _ _ W (HG.out.below hW) (HL.out.below hW)
  unfold RetOps at HTU
  clear p1 p2
  generalize dallE g l = ae at *
  generalize dallG g l = og at *
  generalize turnR g l = tr at *
  generalize dallI g l = ai at *
  go_wp2_with fail
  refine hx.mono ?_
  clear hx x0 x1
  rintro e w3 ⟨vo, wo, rfl, hro, hb3⟩
  obtain ⟨A5, c5, rfl, _, _⟩ := hro.1.form
  obtain ⟨A6, c6, rfl, _, _⟩ := hro.2.form
  have hB4 := hB3.trans (hb3.mono hB3.size)
  have HRO := Lib.hid hro
  clear hro hb3 hB3
  go_upto_region 19 with fail
  have hqn := heap_alloc_new w3 (.cells #[.slice A5 og.nodes.length c5, .slice A6 og.ties.length c6] 25)
  have hba : Below w3.heap.size w3 (w3.alloc (.cells #[.slice A5 og.nodes.length c5, .slice A6 og.ties.length c6] 25)) := (Below.refl _ _).alloc (Nat.le_refl _) _
  generalize w3.alloc (.cells #[.slice A5 og.nodes.length c5, .slice A6 og.ties.length c6] 25) = w4 at *
  have hB5 := hB4.trans (hba.mono hB4.size)
  by_cases ha : ae = 0
  case neg =>
    rw [errV_some ha]
    have hbw := hb0.trans (hB5.mono hw0)
    clear ha hqn
    go_wp2_with fail
    go_ret
    exact ⟨rfl, hbw⟩
  obtain ⟨ht, hr1, hr2⟩ := P2.out ha
  subst ht
  have HR : Hid (grfE og = 0 ∧ grfE g = 0) := ⟨hr2, hr1⟩
  have hx := HTU.out w4 hB5
  rw [errV_zero ha] at hx ⊢
  have x0 := cell_below hB5 X0.out
  have x1 := cell_below hB5 X1.out
  clear ha P2 HTU hr1 hr2
  go_wp2_with fail
  refine hx.mono ?_
  clear hx x0 x1
  rintro e w5 ⟨v20, xs20, rfl, ho20, hb5⟩
  obtain ⟨A10, c10, hv20, _, _⟩ := ho20.o.form
  subst hv20
  have HO0 := Lib.hid ho20
  have hq0 := (hb5.block _ (Array.getElem?_eq_some_iff.1 hqn).1).trans hqn
  have hbs := hba.trans (hb5.mono hba.size)
  have HH0 : Hid (Held w3 w5 (.slice A5 og.nodes.length c5) (.slice A6 og.ties.length c6) (allG og ((diffL og g).take 0))) := .inr (by rw [List.take_zero]; exact HRO.out)
  clear ho20 hqn hba hb5 hB5
  go_wp2_with fail
  -- ops one by one: 22: the loop's slot; w3: the graph's box's world; og, g: the graphs; 23, 24: the cut's slots; 27: the region that draws; x: what the ops' slot holds; w4.heap.size: the bound B; dbend2: how it ends
  go_loopw [22] (fun i wr => ∃ (k : Nat) (vn vt : Value) (xs : List Value), k ≤ (diffL og g).length ∧ i = .int .i64 k ∧ wr.heap[(w3).heap.size]? = some (.cells #[vn, vt] 25 (0, 0)) ∧ Hid (Held w3 wr vn vt (allG og ((diffL og g).take k))) ∧ Below (w3).heap.size w3 wr ∧ Hid (OpsW w4.heap.size wr (.slice A10 (diffL og g).length c10) (diffL og g) xs)) (fun i _ => (diffL og g).length - (intOf i).toNat)
  case atStart => exact ⟨0, _, _, _, Nat.zero_le _, rfl, hq0, HH0, hbs, HO0⟩
  case round =>
    clear hq0 HH0 hbs HO0
    obtain ⟨k, vn, vt, xs, hk, rfl, hq, HHD, hbr, HOP⟩ := hrel
    have hgr := HHD.out.r hbr
    obtain ⟨An, cn, rfl, _, _⟩ := hgr.1.form
    obtain ⟨At, ct, rfl, _, _⟩ := hgr.2.form
    have x0 := block_cell hq 0
    have x1 := block_cell hq 1
    have HQ := Lib.hid hq
    have hbxs : (w3).heap.size < wr.heap.size := (Array.getElem?_eq_some_iff.1 hq).1
    by_cases hlt : k < (diffL og g).length
    · obtain ⟨⟨what, node, prop, tie⟩, hd⟩ : ∃ d, (diffL og g)[k]? = some d := ⟨_, List.getElem?_eq_getElem hlt⟩
      have hlt' : (k : Int) < ((diffL og g).length : Int) := by omega
      have hw1 : IntKind.i64.wrap ((k : Int) + 1) = (k : Int) + 1 := by
        obtain ⟨_, c9, hv9, h9, h10⟩ := HOP.out.o.form
        unfold maxLen at h10
        exact IntWalk.i64_in _ (by omega)
      obtain ⟨s1, s2⟩ := back_step HR.out.1 HR.out.2 hd
      obtain ⟨bo, oo, vr, hA, hor, hcells⟩ := opr_at HOP.out.sl hd
      subst hA
      obtain ⟨Ar, cr, hvr, _, _⟩ := hor.r.form
      have hvr : vr = .slice Ar node.props.length cr := hvr
      subst hvr
      have q0 : wr.cell? ⟨bo, oo + k * 11, none⟩ = some (.int .i64 what) := by have := hcells 0 (.int .i64 what) rfl; simpa using this
      have q1 : wr.cell? ⟨bo, oo + k * 11 + 1, none⟩ = some (.int .i64 node.id) := hcells 1 _ rfl
      have q2 : wr.cell? ⟨bo, oo + k * 11 + 2, none⟩ = some (.string node.kind) := hcells 2 _ rfl
      have q3 : wr.cell? ⟨bo, oo + k * 11 + 3, none⟩ = some (.slice Ar node.props.length cr) := hcells 3 _ rfl
      have q4 : wr.cell? ⟨bo, oo + k * 11 + 4, none⟩ = some (.string prop.name) := hcells 4 _ rfl
      have q5 : wr.cell? ⟨bo, oo + k * 11 + 5, none⟩ = some (.int .i64 prop.v.ty) := hcells 5 _ rfl
      have q6 : wr.cell? ⟨bo, oo + k * 11 + 6, none⟩ = some (.int .i64 prop.v.n) := hcells 6 _ rfl
      have q7 : wr.cell? ⟨bo, oo + k * 11 + 7, none⟩ = some (.string prop.v.s) := hcells 7 _ rfl
      have q8 : wr.cell? ⟨bo, oo + k * 11 + 8, none⟩ = some (.string tie.bond) := hcells 8 _ rfl
      have q9 : wr.cell? ⟨bo, oo + k * 11 + 9, none⟩ = some (.int .i64 tie.src) := hcells 9 _ rfl
      have q10 : wr.cell? ⟨bo, oo + k * 11 + 10, none⟩ = some (.int .i64 tie.dst) := hcells 10 _ rfl
      have HDO : Hid (∀ W, Below wr.heap.size wr W → Calls Try.prog 5 #[.agg #[.slice An (allG og ((diffL og g).take k)).nodes.length cn, .slice At (allG og ((diffL og g).take k)).ties.length ct], .agg #[.int .i64 what, .int .i64 node.id, .string node.kind, .slice Ar node.props.length cr, .string prop.name, .int .i64 prop.v.ty, .int .i64 prop.v.n, .string prop.v.s, .string tie.bond, .int .i64 tie.src, .int .i64 tie.dst]] W
          fun e w' => ∃ vn vt B xs, e = .returned (.tuple #[.agg #[vn, vt], .nilIface]) ∧ OwnG w' B vn vt (allG og ((diffL og g).take (k + 1))) xs ∧ Below W.heap.size W w') := fun W hW => by
        refine (Do_own _ ⟨what, node, prop, tie⟩ _ _ (.slice Ar node.props.length cr) W (hgr.below hW) (hor.below hW)).mono ?_
        rintro e w' ⟨a1, a2, h1, ⟨xs, h2⟩, h3⟩
        rw [s1, errV_zero rfl] at h1
        rw [s2] at h2
        exact ⟨a1, a2, _, xs, h1, h2, h3⟩
      obtain ⟨g2, hg2⟩ : ∃ g2, allG og ((diffL og g).take (k + 1)) = g2 := ⟨_, rfl⟩
      rw [hg2] at HDO
      have HG2 := Lib.hid hg2
      clear hg2
      have hbd : Below wr.heap.size wr wr.drew := (Below.refl _ _).drew
      have hbx : Below wr.heap.size wr (wr.alloc (.cells #[.slice none 0 0, .slice none 0 0] 25)).drew := ((Below.refl _ _).alloc (Nat.le_refl _) _).drew
      have hzx : ((wr.alloc (.cells #[.slice none 0 0, .slice none 0 0] 25)).drew).heap[wr.heap.size]? = some (.cells #[.slice none 0 0, .slice none 0 0] 25 (0, 0)) := heap_alloc_new wr _
      have hn1 : wr.heap.size ≠ (w3).heap.size := by omega
      have hn2 : wr.heap.size ≠ bo := by have : bo < wr.heap.size := World.block_lt_of_cell? _ _ q0; omega
      have hkeep := (And.intro (cell_below hbd x0) (And.intro (cell_below hbd x1) (And.intro (cell_below hbd q0) (And.intro (cell_below hbd q1) (And.intro (cell_below hbd q2) (And.intro (cell_below hbd q3) (And.intro (cell_below hbd q4) (And.intro (cell_below hbd q5) (And.intro (cell_below hbd q6) (And.intro (cell_below hbd q7) (And.intro (cell_below hbd q8) (And.intro (cell_below hbd q9) (cell_below hbd q10)))))))))))))
      clear hd hcells hor hgr s1 s2
      go_upto_region 27 with fail
      go_cut [23, 24] (fun p z wx => ∃ b, p = .pointer (some ⟨b, 0, none⟩) ∧ z = .nilIface ∧ BoxG wr b g2 wx)
      case first =>
        go_region_held3 (fun w' => w'.cell? ⟨(w3).heap.size, 0, none⟩ = some (.slice An (allG og ((diffL og g).take k)).nodes.length cn) ∧ w'.cell? ⟨(w3).heap.size, 1, none⟩ = some (.slice At (allG og ((diffL og g).take k)).ties.length ct) ∧ w'.cell? ⟨bo, oo + k * 11, none⟩ = some (.int .i64 what) ∧ w'.cell? ⟨bo, oo + k * 11 + 1, none⟩ = some (.int .i64 node.id) ∧ w'.cell? ⟨bo, oo + k * 11 + 2, none⟩ = some (.string node.kind) ∧ w'.cell? ⟨bo, oo + k * 11 + 3, none⟩ = some (.slice Ar node.props.length cr) ∧ w'.cell? ⟨bo, oo + k * 11 + 4, none⟩ = some (.string prop.name) ∧ w'.cell? ⟨bo, oo + k * 11 + 5, none⟩ = some (.int .i64 prop.v.ty) ∧ w'.cell? ⟨bo, oo + k * 11 + 6, none⟩ = some (.int .i64 prop.v.n) ∧ w'.cell? ⟨bo, oo + k * 11 + 7, none⟩ = some (.string prop.v.s) ∧ w'.cell? ⟨bo, oo + k * 11 + 8, none⟩ = some (.string tie.bond) ∧ w'.cell? ⟨bo, oo + k * 11 + 9, none⟩ = some (.int .i64 tie.src) ∧ w'.cell? ⟨bo, oo + k * 11 + 10, none⟩ = some (.int .i64 tie.dst))
          (first
            | exact hkeep
            | go_keep)
          (first
            | (go_at_call 5
               first
                 | (refine (HDO.out _ hbd).mono ?_
                    rintro e w5 ⟨un5, ut5, B5, xs5, rfl, how5, hb5⟩
                    obtain ⟨A5, c5, rfl, _, _⟩ := how5.n.form
                    obtain ⟨A6, c6, rfl, _, _⟩ := how5.t.form
                    have hb25 := hbd.trans (hb5.mono hbd.size)
                    have hkeep := (And.intro (cell_below hb25 x0) (And.intro (cell_below hb25 x1) (And.intro (cell_below hb25 q0) (And.intro (cell_below hb25 q1) (And.intro (cell_below hb25 q2) (And.intro (cell_below hb25 q3) (And.intro (cell_below hb25 q4) (And.intro (cell_below hb25 q5) (And.intro (cell_below hb25 q6) (And.intro (cell_below hb25 q7) (And.intro (cell_below hb25 q8) (And.intro (cell_below hb25 q9) (cell_below hb25 q10)))))))))))))
                    have hfin := BoxG.late hb25 how5)
                 | (refine (HDO.out _ hbx).mono ?_
                    rintro e w5 ⟨un5, ut5, B5, xs5, rfl, how5, hb5⟩
                    obtain ⟨A5, c5, rfl, _, _⟩ := how5.n.form
                    obtain ⟨A6, c6, rfl, _, _⟩ := how5.t.form
                    have hb25 := hbx.trans (hb5.mono hbx.size)
                    have hz5 := (hb5.block _ (Array.getElem?_eq_some_iff.1 hzx).1).trans hzx
                    have a0 := block_free hz5 0
                    have a1 := block_free hz5 1
                    have a3 := block_cell hz5 0
                    have a4 := block_cell hz5 1
                    have hkeep := (And.intro (cell_below hb25 x0) (And.intro (cell_below hb25 x1) (And.intro (cell_below hb25 q0) (And.intro (cell_below hb25 q1) (And.intro (cell_below hb25 q2) (And.intro (cell_below hb25 q3) (And.intro (cell_below hb25 q4) (And.intro (cell_below hb25 q5) (And.intro (cell_below hb25 q6) (And.intro (cell_below hb25 q7) (And.intro (cell_below hb25 q8) (And.intro (cell_below hb25 q9) (cell_below hb25 q10)))))))))))))
                    have hfin := BoxG.soon hb25 (Nat.le_refl _) hz5 how5)))
        all_goals
          clear hkeep hb5 hb25 HDO hbd hbx hzx how5
          go_wp2_with fail
          go_meet
          exact ⟨_, rfl, rfl, hfin⟩
      case rest =>
      obtain ⟨b5, rfl, rfl, un5, ut5, hq5, ⟨B5, xs5, how5⟩, hbb, hb5⟩ := hcut
      obtain ⟨w5, rfl⟩ : ∃ x : World, x = wc := ⟨_, rfl⟩
      obtain ⟨A5, c5, rfl, _, _⟩ := how5.n.form
      obtain ⟨A6, c6, rfl, _, _⟩ := how5.t.form
      have hqx := (hb5.block _ (Array.getElem?_eq_some_iff.1 HQ.out).1).trans HQ.out
      have s0 := setCell_block hqx 0 (.slice A5 g2.nodes.length c5)
      have s1 := setCell_block s0 1 (.slice A6 g2.ties.length c6)
      have HE : Hid (∃ vn vt xs, ((w5.setCell ⟨(w3).heap.size, 0, none⟩ (.slice A5 g2.nodes.length c5)).setCell ⟨(w3).heap.size, 1, none⟩ (.slice A6 g2.ties.length c6)).heap[(w3).heap.size]? = some (.cells #[vn, vt] 25 (0, 0)) ∧ Hid (Held w3 ((w5.setCell ⟨(w3).heap.size, 0, none⟩ (.slice A5 g2.nodes.length c5)).setCell ⟨(w3).heap.size, 1, none⟩ (.slice A6 g2.ties.length c6)) vn vt (allG og ((diffL og g).take (k + 1)))) ∧
          Below (w3).heap.size w3 ((w5.setCell ⟨(w3).heap.size, 0, none⟩ (.slice A5 g2.nodes.length c5)).setCell ⟨(w3).heap.size, 1, none⟩ (.slice A6 g2.ties.length c6)) ∧ Hid (OpsW w4.heap.size ((w5.setCell ⟨(w3).heap.size, 0, none⟩ (.slice A5 g2.nodes.length c5)).setCell ⟨(w3).heap.size, 1, none⟩ (.slice A6 g2.ties.length c6)) (.slice (some ⟨bo, oo, none⟩) (diffL og g).length c10) (diffL og g) xs)) := by
        refine ⟨_, _, xs, s1, ?_, ((hbr.trans (hb5.mono hbr.size)).setCell (p := ⟨(w3).heap.size, 0, none⟩) (Nat.le_refl _) _).setCell (p := ⟨(w3).heap.size, 1, none⟩) (Nat.le_refl _) _, ((HOP.out.below hb5).set hqx 0 _).set s0 1 _⟩
        rw [HG2.out]
        have hh : Held w3 w5 (.slice A5 g2.nodes.length c5) (.slice A6 g2.ties.length c6) g2 := .inl ⟨B5, xs5, how5⟩
        exact (hh.set hqx 0 _).set s0 1 _
      have a0 := block_free hqx 0
      have a1 := block_free hqx 1
      have a2 := block_cell hqx 0
      have a3 := block_cell hqx 1
      have a4 := block_cell hq5 0
      have a5 := block_cell hq5 1
      clear hkeep hq5 how5 hbb hb5 hqx s0 s1 HG2 HQ HHD HOP HDO hbd hbx hzx hbr q0 q1 q2 q3 q4 q5 q6 q7 q8 q9 q10 x0 x1
      go_wp2_with fail
      go_roundw
      case rel =>
        obtain ⟨e1, e2, e3, e4, e5, e6, e7⟩ := HE.out
        exact ⟨k + 1, e1, e2, e3, by omega, by go_num, e4, e5, e6, e7⟩
      case measure => simp [intOf]; omega
    · obtain rfl : k = (diffL og g).length := by omega
      have hE := back_all HR.out.1 HR.out.2
      have hgr : GrfR wr (.slice An (allG og ((diffL og g).take (diffL og g).length)).nodes.length cn) (.slice At (allG og ((diffL og g).take (diffL og g).length)).ties.length ct) g := by
        have := hgr
        rw [hE] at this ⊢
        exact this
      rw [hE] at hgr x0 x1
      have h4 := same_facts g g rfl HR.out.2
      have hx := gsame_any g g _ _ _ _ wr hgr (HG.out.below (hB4.trans (hbr.mono hB4.size)))
      rw [h4.1, h4.2, errV_zero rfl] at hx
      have y0 := cell_below (hB4.trans (hbr.mono hB4.size)) X0.out
      have y1 := cell_below (hB4.trans (hbr.mono hB4.size)) X1.out
      have hbw := hb0.trans ((hB4.trans (hbr.mono hB4.size)).mono hw0)
      clear hE hgr h4 hq HHD HOP HQ HR
      go_wp2_with fail
      refine hx.mono ?_
      clear hx x0 x1 y0 y1
      rintro e w6 ⟨rfl, hb6⟩
      have hfin := hbw.trans (hb6.mono hbw.size)
      clear hbr hb6
      go_wp2_with fail
      go_ret
      exact ⟨rfl, hfin⟩
end Go.Proofs.Ytfjnkidblalckaa
