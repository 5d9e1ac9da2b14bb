/- Parts: ChH, ChI, ChJ0, ChJ2, ChJ3. -/
import Derived.Test.YtldmofffogjlkaaDoorMg19
import Derived.Test.YtldmofffogjlkaaDoorMg14
/- Contract: change.do, where a kind is added. -/
namespace Go.Proofs.YtldmofffogjlkaaDoor
open Go Go.RowKit


theorem op_callx {P : Program} {o : Oper} {a : Act} {w : World} {K : Act → World → Prop} {Q : Exit → Act → World → Prop} (g : Nat) (vs : Array Value)
    (hr : (execOp a.eval o).run P w = .ok (.enter g vs) w) {R : Ending → World → Prop}
    (h : Calls P g vs w R) (hk : ∀ e w', R e w' → ∃ u, e = .returned u ∧ K (a.put o.dst u) w') : Oper.wp P o a w K Q := by
  unfold Oper.wp
  rw [hr, Oper.upon_enter]
  exact h.mono fun e w' hR => by
    obtain ⟨u, rfl, hK⟩ := hk e w' hR
    exact hK
theorem op_val {P : Program} {o : Oper} {a : Act} {w w' : World} {K : Act → World → Prop} {Q : Exit → Act → World → Prop} (v : Value)
    (hr : (execOp a.eval o).run P w = .ok (.value v) w') (h : K (a.put o.dst v) w') : Oper.wp P o a w K Q := by
  unfold Oper.wp
  rw [hr]
  exact h
def akS (s : Scm) (d : Knd) : Scm := ⟨s.kinds ++ [d], s.bonds⟩
set_option maxRecDepth 100000 in
set_option maxHeartbeats 8000000 in
theorem cdo1_any (s : Scm) (c : Chg) (bs : Nat) (vk vb vo vf : Value) (xs : List Value) (B : Nat) (w : World) (hB : B ≤ w.heap.size) (hS : SW w B bs vk vb s xs) (hc : ChgR w vo vf c) (hkl : s.kinds.length ≤ 1000)
    (ho : c.kind.ofs.length ≤ 1048576) (hf : c.kind.fields.length ≤ 1048576) (hw1 : c.what = 1) :
    Calls Tryd.prog 34 #[.pointer (some ⟨bs, 0, none⟩), .agg (chgCells c vo vf)] w (RetSW B bs (akS s c.kind) 0 w) := by
  obtain ⟨Ak, ck, rfl, _, _⟩ := hS.o.n.form
  obtain ⟨Ab, cb, rfl, _, _⟩ := hS.o.b.form
  obtain ⟨Ao, co, rfl, _, _⟩ := hc.ko.form
  obtain ⟨Af, cf, rfl, _, _⟩ := hc.kf.form
  obtain ⟨what, name, kind, bond, fld, val, tow⟩ := c
  have HCC := Lib.hid hc
  clear hc
  show Calls Tryd.prog 34 #[.pointer (some ⟨bs, 0, none⟩), .agg #[.int .i64 what, .string name, .string kind.name, .slice Ao kind.ofs.length co, .slice Af kind.fields.length cf, .string bond.name, .string bond.src, .string bond.dst, .int .i64 bond.mn, .int .i64 bond.mx, .string fld.name, .int .i64 fld.ty, .bool fld.must, .bool fld.key, .int .i64 val.ty, .int .i64 val.n, .string val.s, .string tow]] w _
  obtain ⟨W0, hW0⟩ : ∃ W0, W0 = w.alloc (.cells #[.int .i64 what, .string name, .string kind.name, .slice Ao kind.ofs.length co, .slice Af kind.fields.length cf, .string bond.name, .string bond.src, .string bond.dst, .int .i64 bond.mn, .int .i64 bond.mx, .string fld.name, .int .i64 fld.ty, .bool fld.must, .bool fld.key, .int .i64 val.ty, .int .i64 val.n, .string val.s, .string tow] 42) := ⟨_, rfl⟩
  have hb0 : Below w.heap.size w W0 := by rw [hW0]; exact (Below.refl _ _).alloc (Nat.le_refl _) _
  have g0 : W0.heap[w.heap.size]? = some (.cells #[.int .i64 what, .string name, .string kind.name, .slice Ao kind.ofs.length co, .slice Af kind.fields.length cf, .string bond.name, .string bond.src, .string bond.dst, .int .i64 bond.mn, .int .i64 bond.mx, .string fld.name, .int .i64 fld.ty, .bool fld.must, .bool fld.key, .int .i64 val.ty, .int .i64 val.n, .string val.s, .string tow] 42 (0, 0)) := by rw [hW0]; exact heap_alloc_new _ _
  have hq0 : W0.heap[bs]? = some (.cells #[.slice Ak s.kinds.length ck, .slice Ab s.bonds.length cb] 25 (0, 0)) := (hb0.block _ (Array.getElem?_eq_some_iff.1 hS.q).1).trans hS.q
  have hW0' := hW0.symm
  have HS0 := Lib.hid (hS.o.below hb0)
  have HC0 := Lib.hid (HCC.out.below hb0)
  have HBS := Lib.hid hS.l
  have hw0 := hb0.size
  have hbsl : bs < w.heap.size := (Array.getElem?_eq_some_iff.1 hS.q).1
  have hsz : W0.heap.size = w.heap.size + 1 := by rw [hW0]; simp
  have HQ0 := Lib.hid hq0
  have HG0 := Lib.hid g0
  have x0 := block_cell hq0 0
  have x1 := block_cell hq0 1
  have y0 := block_cell g0 0
  have y1 := block_cell g0 1
  have y2 := block_cell g0 2
  have y3 := block_cell g0 3
  have y4 := block_cell g0 4
  have y5 := block_cell g0 5
  have y6 := block_cell g0 6
  have y7 := block_cell g0 7
  have y8 := block_cell g0 8
  have y9 := block_cell g0 9
  clear hS hW0 hq0 g0 HCC
  obtain rfl : what = 1 := hw1
  have hco := clone_strs (HC0.out.ko.below (Below.refl W0.heap.size W0).drew) ho
  obtain ⟨i0, ei, ez, ez1, ez2⟩ := info_parts clonec_knds_info
  have hb0d : Below W0.heap.size W0 W0.drew := (Below.refl _ _).drew
  go_enter Tryd.func34, Tryd.ntmps34
  go_wp2_with fail
  refine wp_region_x 21 22 #[false, false, false, false, false, false, false, false, false, false, false, false, false, false, false, false, false, false, false, false, false, false] (fun w' => w'.cell? ⟨bs, 0, none⟩ = some (.slice Ak s.kinds.length ck) ∧ w'.cell? ⟨w.heap.size, 2, none⟩ = some (.string kind.name) ∧ w'.cell? ⟨w.heap.size, 3, none⟩ = some (.slice Ao kind.ofs.length co) ∧ w'.cell? ⟨w.heap.size, 4, none⟩ = some (.slice Af kind.fields.length cf)) (by kernel_rfl) (by kernel_rfl) (by kernel_rfl) ⟨x0, y2, y3, y4⟩ (fun hHeld => ?_)
  refine wpAnyX_take (i := 0) (v := ?_) rfl (by kernel_rfl) (fun _ _ _ h => h) (Or.inl ⟨by rfl, ?_⟩) (by assumption) ?_
  rotate_left
  · intro wS hSw
    try dsimp only at hSw
    go_simp
    try with_reducible rfl
  simp only [Act.put, List.setIfInBounds_toArray, List.set_cons_zero, List.set_cons_succ]
  refine wpAnyX_take (i := 1) (v := ?_) rfl (by kernel_rfl) (fun _ _ _ h => h) (Or.inl ⟨by rfl, ?_⟩) (by assumption) ?_
  rotate_left
  · intro wS hSw
    try dsimp only at hSw
    go_simp
    try with_reducible rfl
  simp only [Act.put, List.setIfInBounds_toArray, List.set_cons_zero, List.set_cons_succ]
  refine wpAnyX_take (i := 2) (v := ?_) rfl (by kernel_rfl) (fun _ _ _ h => h) (Or.inl ⟨by rfl, ?_⟩) (by assumption) ?_
  rotate_left
  · intro wS hSw
    try dsimp only at hSw
    go_simp
    try with_reducible rfl
  simp only [Act.put, List.setIfInBounds_toArray, List.set_cons_zero, List.set_cons_succ]
  refine wpAnyX_take (i := 3) (v := ?_) rfl (by kernel_rfl) (fun _ _ _ h => h) (Or.inl ⟨by rfl, ?_⟩) (by assumption) ?_
  rotate_left
  · intro wS hSw
    try dsimp only at hSw
    go_simp
    try with_reducible rfl
  simp only [Act.put, List.setIfInBounds_toArray, List.set_cons_zero, List.set_cons_succ]
  refine wpAnyX_take (i := 4) (v := ?_) rfl (by kernel_rfl) (fun _ _ _ h => h) (Or.inl ⟨by rfl, ?_⟩) (by assumption) ?_
  rotate_left
  · intro wS hSw
    try dsimp only at hSw
    go_simp
    try with_reducible rfl
  simp only [Act.put, List.setIfInBounds_toArray, List.set_cons_zero, List.set_cons_succ]
  refine wpAnyX_take (i := 5) (v := ?_) rfl (by kernel_rfl) (fun _ _ _ h => h) (Or.inl ⟨by rfl, ?_⟩) (by assumption) ?_
  rotate_left
  · intro wS hSw
    try dsimp only at hSw
    go_simp
    try with_reducible rfl
  simp only [Act.put, List.setIfInBounds_toArray, List.set_cons_zero, List.set_cons_succ]
  refine wpAnyX_take (i := 6) (v := ?_) rfl (by kernel_rfl) (fun _ _ _ h => h) (Or.inl ⟨by rfl, ?_⟩) (by assumption) ?_
  rotate_left
  · intro wS hSw
    try dsimp only at hSw
    go_simp
    try with_reducible rfl
  simp only [Act.put, List.setIfInBounds_toArray, List.set_cons_zero, List.set_cons_succ]
  refine wpAnyX_take (i := 7) (v := ?_) rfl (by kernel_rfl) (fun _ _ _ h => h) (Or.inl ⟨by rfl, ?_⟩) (by assumption) ?_
  rotate_left
  · intro wS hSw
    try dsimp only at hSw
    go_simp
    try with_reducible rfl
  simp only [Act.put, List.setIfInBounds_toArray, List.set_cons_zero, List.set_cons_succ]
  refine wpAnyX_take (i := 8) (v := ?_) rfl (by kernel_rfl) (fun _ _ _ h => h) (Or.inl ⟨by rfl, ?_⟩) (by assumption) ?_
  rotate_left
  · intro wS hSw
    try dsimp only at hSw
    go_simp
    try with_reducible rfl
  simp only [Act.put, List.setIfInBounds_toArray, List.set_cons_zero, List.set_cons_succ]
  refine wpAnyX_take (i := 9) (v := ?_) rfl (by kernel_rfl) (fun _ _ _ h => h) (Or.inl ⟨by rfl, ?_⟩) (by assumption) ?_
  rotate_left
  · intro wS hSw
    try dsimp only at hSw
    go_simp
    try with_reducible rfl
  simp only [Act.put, List.setIfInBounds_toArray, List.set_cons_zero, List.set_cons_succ]
  refine wpAnyX_take (i := 10) (v := ?_) rfl (by kernel_rfl) (fun _ _ _ h => h) (Or.inl ⟨by rfl, ?_⟩) (by assumption) ?_
  rotate_left
  · intro wS hSw
    try dsimp only at hSw
    go_simp
    try with_reducible rfl
  simp only [Act.put, List.setIfInBounds_toArray, List.set_cons_zero, List.set_cons_succ]
  refine wpAnyX_take (i := 12) (v := ?_) rfl (by kernel_rfl) (fun _ _ _ h => h) (Or.inl ⟨by rfl, ?_⟩) (by assumption) ?_
  rotate_left
  · intro wS hSw
    try dsimp only at hSw
    go_simp
    try with_reducible rfl
  simp only [Act.put, List.setIfInBounds_toArray, List.set_cons_zero, List.set_cons_succ]
  refine wpAnyX_take (i := 13) (v := ?_) rfl (by kernel_rfl) (fun _ _ _ h => h) (Or.inl ⟨by rfl, ?_⟩) (by assumption) ?_
  rotate_left
  · intro wS hSw
    try dsimp only at hSw
    go_simp
    try with_reducible rfl
  simp only [Act.put, List.setIfInBounds_toArray, List.set_cons_zero, List.set_cons_succ]
  refine wpAnyX_take (i := 14) (v := ?_) rfl (by kernel_rfl) (fun _ _ _ h => h) (Or.inl ⟨by rfl, ?_⟩) (by assumption) ?_
  rotate_left
  · intro wS hSw
    try dsimp only at hSw
    go_simp
    try with_reducible rfl
  simp only [Act.put, List.setIfInBounds_toArray, List.set_cons_zero, List.set_cons_succ]
  refine wpAnyX_op (i := 11) rfl (by kernel_rfl) rfl (fun K hK => ?_)
  refine op_callx 76 #[.slice Ao kind.ofs.length co] (by kernel_rfl) hco ?_
  rintro e w2 ⟨u2, xu, rfl, hou, hru, hb2⟩
  have hb2' : Below W0.heap.size W0 w2 := hb0d.trans (hb2.mono hb0d.size)
  refine (Row.flat hru).elim fun exu hok2 => ?_
  subst exu
  refine hou.form.elim fun A2 h2 => ?_
  refine h2.elim fun c3 h2 => ?_
  have eu2 := h2.1
  clear h2
  subst eu2
  have hS2 : w2.cell? ⟨bs, 0, none⟩ = some (.slice Ak s.kinds.length ck) ∧ w2.cell? ⟨w.heap.size, 2, none⟩ = some (.string kind.name) ∧ w2.cell? ⟨w.heap.size, 3, none⟩ = some (.slice Ao kind.ofs.length co) ∧ w2.cell? ⟨w.heap.size, 4, none⟩ = some (.slice Af kind.fields.length cf) :=
    ⟨cell_below hb2' x0, cell_below hb2' y2, cell_below hb2' y3, cell_below hb2' y4⟩
  refine ⟨_, rfl, hK _ _ (fun _ => hS2) (fun _ => ?_)⟩
  clear hK
  have hcf := clone_flds (HC0.out.kf.below hb2') hf
  refine wpAnyX_op (i := 15) rfl (by kernel_rfl) rfl (fun K2 hK2 => ?_)
  refine op_callx 77 #[.slice Af kind.fields.length cf] (by kernel_rfl) hcf ?_
  rintro e w4 ⟨u4, xv, rfl, hov, hrv, hb4⟩
  have hb4' : Below W0.heap.size W0 w4 := hb2'.trans (hb4.mono hb2'.size)
  refine (Row.flat hrv).elim fun exv hok4 => ?_
  subst exv
  refine hov.form.elim fun A4 h4 => ?_
  refine h4.elim fun c5 h4 => ?_
  have eu4 := h4.1
  clear h4
  subst eu4
  have hS4 : w4.cell? ⟨bs, 0, none⟩ = some (.slice Ak s.kinds.length ck) ∧ w4.cell? ⟨w.heap.size, 2, none⟩ = some (.string kind.name) ∧ w4.cell? ⟨w.heap.size, 3, none⟩ = some (.slice Ao kind.ofs.length co) ∧ w4.cell? ⟨w.heap.size, 4, none⟩ = some (.slice Af kind.fields.length cf) :=
    ⟨cell_below hb4' x0, cell_below hb4' y2, cell_below hb4' y3, cell_below hb4' y4⟩
  refine ⟨_, rfl, hK2 _ _ (fun _ => hS4) (fun _ => ?_)⟩
  clear hK2
  refine wpAnyX_take (i := 16) (v := ?_) rfl (by kernel_rfl) (fun _ _ _ h => h) (Or.inl ⟨by rfl, ?_⟩) (by assumption) ?_
  rotate_left
  · intro wS hSw
    try dsimp only at hSw
    go_simp
    try with_reducible rfl
  simp only [Act.put, List.setIfInBounds_toArray, List.set_cons_zero, List.set_cons_succ]
  refine (⟨_, rfl⟩ : ∃ w5, w5 = w4.alloc (.cells #[.string kind.name, .slice A2 kind.ofs.length c3, .slice A4 kind.fields.length c5] 34)).elim fun w5 hw5e => ?_
  have hbn : Below w4.heap.size w4 w5 := by rw [hw5e]; exact (Below.refl _ _).alloc (Nat.le_refl _) _
  have hcells : ∀ j u, ([.string kind.name, .slice A2 kind.ofs.length c3, .slice A4 kind.fields.length c5] : List Value)[j]? = some u → w5.cell? ⟨w4.heap.size, j, none⟩ = some u := fun j u hj => by
    rw [hw5e, World.cell?_alloc_at _ _ _ _ rfl]; simpa using hj
  refine wpAnyX_op (i := 17) rfl (by kernel_rfl) rfl (fun K3 hK3 => ?_)
  refine op_val (.slice (some ⟨w4.heap.size, 0, none⟩) 1 1) (w' := w5) (by rw [hw5e]; kernel_rfl) ?_
  have hS5 : w5.cell? ⟨bs, 0, none⟩ = some (.slice Ak s.kinds.length ck) ∧ w5.cell? ⟨w.heap.size, 2, none⟩ = some (.string kind.name) ∧ w5.cell? ⟨w.heap.size, 3, none⟩ = some (.slice Ao kind.ofs.length co) ∧ w5.cell? ⟨w.heap.size, 4, none⟩ = some (.slice Af kind.fields.length cf) :=
    ⟨cell_below hbn hS4.1, cell_below hbn hS4.2.1, cell_below hbn hS4.2.2.1, cell_below hbn hS4.2.2.2⟩
  refine hK3 _ _ (fun _ => hS5) (fun _ => ?_)
  clear hK3
  have hb5 : Below W0.heap.size W0 w5 := hb4'.trans (hbn.mono hb4'.size)
  have a3 : Own w5 W0.heap.size 9 1 (.slice A2 kind.ofs.length c3) kind.ofs.length (kind.ofs.map Value.string) := by
    rw [List.map_eq_flatMap]; exact ((Own.mono (B' := W0.heap.size) hou hb0d.size).below hb4).below hbn
  have a5 : Own w5 w2.heap.size 38 4 (.slice A4 kind.fields.length c5) kind.fields.length (kind.fields.flatMap Fld.enc) := hov.below hbn
  have hw2 := hb2'.size
  have hw5 := hb5.size
  have HS5 := Lib.hid (HS0.out.below hb5)
  have HQ5 := Lib.hid ((hb5.block _ (Array.getElem?_eq_some_iff.1 HQ0.out).1).trans HQ0.out)
  have HG5 := Lib.hid ((hb5.block _ (Array.getElem?_eq_some_iff.1 HG0.out).1).trans HG0.out)
  refine wpAnyX_op (i := 18) rfl (by kernel_rfl) rfl (fun K4 hK4 => ?_)
  simp only [Act.put, List.setIfInBounds_toArray, List.set_cons_zero, List.set_cons_succ]
  refine wp_append_q _ (.tmp 14) (.tmp 27) 22 (by kernel_rfl) B 34 i0 (.agg #[.string .empty, .slice none 0 0, .slice none 0 0]) 3 64 Tryd.underlying22 ei ez ez1 ez2 rfl (by decide) (.slice Ak s.kinds.length ck) s.kinds.length xs (by kernel_rfl) HS5.out.n (some ⟨w4.heap.size, 0, none⟩) 1 1 [.string kind.name, .slice A2 kind.ofs.length c3, .slice A4 kind.fields.length c5] (by kernel_rfl) rfl
    (fun _ => ⟨_, rfl, fun j u hj => by rw [addr_add, Nat.zero_add]; exact hcells j u hj⟩) (fun u hu => by simp at hu; rcases hu with rfl | rfl | rfl <;> rfl) (by unfold maxLen; omega) (by omega) (by omega) ?_
  intro v7 w7 hown7 hg7 hat7
  refine hown7.form.elim fun A7 h7 => ?_
  refine h7.elim fun c7 h7 => ?_
  have ev7 := h7.1
  clear h7
  subst ev7
  have hg7b := grown_block hg7 HQ5.out (HS5.out.n.ne_block HQ5.out (by decide))
  have hg7c := grown_block hg7 HG5.out (HS5.out.n.ne_block HG5.out (by decide))
  have e0 := block_cell hg7b 0
  have e1 := block_free hg7b 0
  have hS7 : w7.cell? ⟨bs, 0, none⟩ = some (.slice Ak s.kinds.length ck) ∧ w7.cell? ⟨w.heap.size, 2, none⟩ = some (.string kind.name) ∧ w7.cell? ⟨w.heap.size, 3, none⟩ = some (.slice Ao kind.ofs.length co) ∧ w7.cell? ⟨w.heap.size, 4, none⟩ = some (.slice Af kind.fields.length cf) :=
    ⟨e0, block_cell hg7c 2, block_cell hg7c 3, block_cell hg7c 4⟩
  refine hK4 _ _ (fun _ => hS7) (fun _ => ?_)
  clear hK4
  refine wpAnyX_take (i := 19) (v := ?_) rfl (by kernel_rfl) (fun _ _ _ h => h) (Or.inl ⟨by rfl, ?_⟩) (by assumption) ?_
  rotate_left
  · intro wS hSw
    try dsimp only at hSw
    go_simp
    try with_reducible rfl
  simp only [Act.put, List.setIfInBounds_toArray, List.set_cons_zero, List.set_cons_succ]
  refine wpAnyX_take (i := 20) (v := ?_) rfl (by kernel_rfl) (fun _ _ _ h => h) (Or.inl ⟨by rfl, ?_⟩) (by assumption) ?_
  rotate_left
  · intro wS hSw
    try dsimp only at hSw
    go_simp
    try with_reducible rfl
  simp only [Act.put, List.setIfInBounds_toArray, List.set_cons_zero, List.set_cons_succ]
  refine wpAnyX_op (i := 21) rfl (by kernel_rfl) rfl (fun K5 hK5 => ?_)
  unfold Oper.wp
  go_simp
  have hSg : ∀ T, 34 ≠ T → Same T w5 w7 := fun T hT => Same.grown HS5.out.n hT hg7
  have hSk : ∀ T, 34 ≠ T → Same T W0 w7 := fun T hT => (Same.below hb5).trans (hSg T hT)
  have hset : ∀ T, 25 ≠ T → Same T w7 (w7.setCell ⟨bs, 0, none⟩ (.slice A7 (s.kinds.length + 1) c7)) := fun T hT => Same.setCell (p := ⟨bs, 0, none⟩) hg7b hT _
  have HQ6 := Lib.hid (setCell_block hg7b 0 (.slice A7 (s.kinds.length + 1) c7))
  have hfar : ∀ (i : Nat) (y : Value) (b : Nat), xs[i * 3 + 2]? = some y → y.ownBlock = some b → (Value.slice A4 kind.fields.length c5).ownBlock ≠ some b := fun i y b hy hb he => by
    have h1 := OwnKnds.flt HS0.out.o i y b hy hb
    have h2 := (a5.lt b he).1
    omega
  have HO : Hid (OwnS (w7.setCell ⟨bs, 0, none⟩ (.slice A7 (s.kinds.length + 1) c7)) B (.slice A7 (s.kinds.length + 1) c7) (.slice Ab s.bonds.length cb) (akS s kind) (xs ++ [.string kind.name, .slice A2 kind.ofs.length c3, .slice A4 kind.fields.length c5])) :=
    ⟨by
      have h := hown7.same (hset _ (by decide))
      have e : (akS s kind).kinds.length = s.kinds.length + 1 := by simp [akS]
      rw [e]; exact h,
     OwnKnds.snoc HC0.out.kn hok2 (((a3.same (hSg _ (by decide))).same (hset _ (by decide))).mono (by omega)) hok4 (((a5.same (hSg _ (by decide))).same (hset _ (by decide))).mono (by omega))
       ((HS5.out.o.same (hSg _ (by decide)) (hSg _ (by decide))).same (hset _ (by decide)) (hset _ (by decide))),
     (HS5.out.b.same (hSg _ (by decide))).same (hset _ (by decide)), HS5.out.k, HS5.out.d.snoc HS5.out.o.len hfar⟩
  have hB7 : Below B w w7 := ((hb0.mono hB).trans (hb5.mono (by omega))).grown hg7 (by omega) (fun k e => (HS5.out.n.lt k e).1)
  have hs7 := hg7.size
  have HK := Lib.hid hSk
  refine hK5 _ _ (fun h => absurd rfl h) (fun _ => wpAnyX_done (by kernel_rfl) ?_)
  clear hK5 hSk hSg hset hown7 hg7 hat7 hg7b hg7c e0 e1 x0 x1 y0 y1 y2 y3 y4 y5 y6 y7 y8 y9 hS2 hS4 hS5 hS7 hfar a3 a5 hcells hov hrv hou hru hHeld
  go_wp2_with fail
  go_ret
  exact ⟨rfl, (fun _ => ⟨_, _, _, HQ6.out, HO.out, HBS.out⟩), hB7.setCell (p := ⟨bs, 0, none⟩) HBS.out _,
    (fun k cc fr hne hk => by rw [Below.heap_setCell _ _ _ _ hne]; exact HK.out 25 (by decide) _ _ _ (Same.below hb0 _ _ _ hk)), by simp [World.setCell]; omega⟩
end Go.Proofs.YtldmofffogjlkaaDoor

/- Contract: change.do, where a bond is added. -/
namespace Go.Proofs.YtldmofffogjlkaaDoor
open Go Go.RowKit


def abS (s : Scm) (d : Bnd) : Scm := ⟨s.kinds, s.bonds ++ [d]⟩
set_option maxRecDepth 100000 in
set_option maxHeartbeats 8000000 in
theorem cdo5_any (s : Scm) (c : Chg) (bs : Nat) (vk vb vo vf : Value) (xs : List Value) (B : Nat) (w : World) (hB : B ≤ w.heap.size) (hS : SW w B bs vk vb s xs) (hc : ChgR w vo vf c) (hbl : s.bonds.length ≤ 1000) (hw1 : c.what = 5) :
    Calls Tryd.prog 34 #[.pointer (some ⟨bs, 0, none⟩), .agg (chgCells c vo vf)] w (RetSW B bs (abS s c.bond) 0 w) := by
  obtain ⟨Ak, ck, rfl, _, _⟩ := hS.o.n.form
  obtain ⟨Ab, cb, rfl, _, _⟩ := hS.o.b.form
  obtain ⟨Ao, co, rfl, _, _⟩ := hc.ko.form
  obtain ⟨Af, cf, rfl, _, _⟩ := hc.kf.form
  obtain ⟨what, name, kind, bond, fld, val, tow⟩ := c
  have HCC := Lib.hid hc
  clear hc
  show Calls Tryd.prog 34 #[.pointer (some ⟨bs, 0, none⟩), .agg #[.int .i64 what, .string name, .string kind.name, .slice Ao kind.ofs.length co, .slice Af kind.fields.length cf, .string bond.name, .string bond.src, .string bond.dst, .int .i64 bond.mn, .int .i64 bond.mx, .string fld.name, .int .i64 fld.ty, .bool fld.must, .bool fld.key, .int .i64 val.ty, .int .i64 val.n, .string val.s, .string tow]] w _
  obtain ⟨W0, hW0⟩ : ∃ W0, W0 = w.alloc (.cells #[.int .i64 what, .string name, .string kind.name, .slice Ao kind.ofs.length co, .slice Af kind.fields.length cf, .string bond.name, .string bond.src, .string bond.dst, .int .i64 bond.mn, .int .i64 bond.mx, .string fld.name, .int .i64 fld.ty, .bool fld.must, .bool fld.key, .int .i64 val.ty, .int .i64 val.n, .string val.s, .string tow] 42) := ⟨_, rfl⟩
  have hb0 : Below w.heap.size w W0 := by rw [hW0]; exact (Below.refl _ _).alloc (Nat.le_refl _) _
  have g0 : W0.heap[w.heap.size]? = some (.cells #[.int .i64 what, .string name, .string kind.name, .slice Ao kind.ofs.length co, .slice Af kind.fields.length cf, .string bond.name, .string bond.src, .string bond.dst, .int .i64 bond.mn, .int .i64 bond.mx, .string fld.name, .int .i64 fld.ty, .bool fld.must, .bool fld.key, .int .i64 val.ty, .int .i64 val.n, .string val.s, .string tow] 42 (0, 0)) := by rw [hW0]; exact heap_alloc_new _ _
  have hq0 : W0.heap[bs]? = some (.cells #[.slice Ak s.kinds.length ck, .slice Ab s.bonds.length cb] 25 (0, 0)) := (hb0.block _ (Array.getElem?_eq_some_iff.1 hS.q).1).trans hS.q
  have hW0' := hW0.symm
  have HS0 := Lib.hid (hS.o.below hb0)
  have HC0 := Lib.hid (HCC.out.below hb0)
  have HBS := Lib.hid hS.l
  have hw0 := hb0.size
  have hbsl : bs < w.heap.size := (Array.getElem?_eq_some_iff.1 hS.q).1
  have hsz : W0.heap.size = w.heap.size + 1 := by rw [hW0]; simp
  have HQ0 := Lib.hid hq0
  have HG0 := Lib.hid g0
  have x0 := block_cell hq0 0
  have x1 := block_cell hq0 1
  have y0 := block_cell g0 0
  have y1 := block_cell g0 1
  have y2 := block_cell g0 2
  have y3 := block_cell g0 3
  have y4 := block_cell g0 4
  have y5 := block_cell g0 5
  have y6 := block_cell g0 6
  have y7 := block_cell g0 7
  have y8 := block_cell g0 8
  have y9 := block_cell g0 9
  clear hS hW0 hq0 g0 HCC
  have HSZ := Lib.hid hsz
  clear hsz
  obtain rfl : what = 5 := hw1
  obtain ⟨i0, ei, ez, ez1, ez2⟩ := info_parts clone_bnds_info
  have r0 := fun o => cell_below ((Below.refl W0.heap.size W0).alloc (Nat.le_refl _) o) x1
  have HN : Hid (∀ j u, (Bnd.enc bond)[j]? = some u → (W0.alloc (.cells #[.string bond.name, .string bond.src, .string bond.dst, .int .i64 bond.mn, .int .i64 bond.mx] 36)).cell? ⟨W0.heap.size, j, none⟩ = some u) := fun j u hj => by
    rw [World.cell?_alloc_at _ _ _ _ rfl]; simpa [Bnd.enc] using hj
  have HGQ : Hid ((W0.alloc (.cells #[.string bond.name, .string bond.src, .string bond.dst, .int .i64 bond.mn, .int .i64 bond.mx] 36)).heap[bs]? = some (.cells #[.slice Ak s.kinds.length ck, .slice Ab s.bonds.length cb] 25 (0, 0))) := by
    unfold Hid; rw [Below.heap_alloc _ _ _ (Array.getElem?_eq_some_iff.1 HQ0.out).1]; exact HQ0.out
  have HOB : Hid (Own (W0.alloc (.cells #[.string bond.name, .string bond.src, .string bond.dst, .int .i64 bond.mn, .int .i64 bond.mx] 36)).drew B 36 5 (.slice Ab s.bonds.length cb) s.bonds.length (s.bonds.flatMap Bnd.enc)) := (HS0.out.b.alloc _).below (Below.refl _ _).drew
  have HSB : Hid (B ≤ (W0.alloc (.cells #[.string bond.name, .string bond.src, .string bond.dst, .int .i64 bond.mn, .int .i64 bond.mx] 36)).drew.heap.size) := by unfold Hid; simp [World.drew]; omega
  go_enter Tryd.func34, Tryd.ntmps34
  go_wp2_with fail
  go_region_law
    (first
      | (refine step_here rfl ?_
         refine wp_append_q _ (.tmp 50) (.tmp 53) 23 rfl B 36 i0 (.agg #[.string .empty, .string .empty, .string .empty, .int .i64 0, .int .i64 0]) 5 64 Tryd.underlying23 ei ez ez1 ez2 rfl (by decide) (.slice Ab s.bonds.length cb) s.bonds.length (s.bonds.flatMap Bnd.enc) rfl HOB.out (some ⟨W0.heap.size, 0, none⟩) 1 1 (Bnd.enc bond) rfl rfl
           (fun _ => ⟨_, rfl, fun j u hj => by rw [addr_add, Nat.zero_add]; exact HN.out j u hj⟩) (fun u hu => by simp [Bnd.enc] at hu; rcases hu with rfl | rfl | rfl | rfl | rfl <;> rfl) (by unfold maxLen; omega) (by omega) HSB.out ?_
         intro v7 w7 hown7 hg7 hat7
         obtain ⟨A7, c7, rfl, _, _⟩ := hown7.form
         have hg7b := grown_block hg7 HGQ.out (HOB.out.ne_block HGQ.out (by decide))
         have e0 := block_cell hg7b 1
         have e1 := block_free hg7b 1))
  all_goals
    have hSk : ∀ T, 36 ≠ T → Same T W0 w7 := fun T hT => (Same.alloc W0 _).trans ((Same.drew _).trans (Same.grown HOB.out hT hg7))
    have hset : ∀ T, 25 ≠ T → Same T w7 (w7.setCell ⟨bs, 1, none⟩ (.slice A7 (s.bonds.length + 1) c7)) := fun T hT => Same.setCell (p := ⟨bs, 1, none⟩) hg7b hT _
    have HQ6 := Lib.hid (setCell_block hg7b 1 (.slice A7 (s.bonds.length + 1) c7))
    rw [flat_snoc] at hown7
    have HO := Lib.hid (HS0.out.setB (bs' := s.bonds ++ [bond]) (by simp) (hown7.same (hset _ (by decide))) (fun y hy => by
      rcases List.mem_append.1 hy with h | h
      · exact HS0.out.k y h
      · simp at h; subst h; exact HC0.out.b) ((hSk _ (by decide)).trans (hset _ (by decide))) ((hSk _ (by decide)).trans (hset _ (by decide))) ((hSk _ (by decide)).trans (hset _ (by decide))))
    have hB7 : Below B w w7 := (((hb0.mono hB).alloc (by omega) _).drew).grown hg7 HSB.out (fun k e => (HOB.out.lt k e).1)
    have hs7 := hg7.size
    have hs8 : W0.heap.size + 1 ≤ w7.heap.size := by simp at hs7; exact hs7
    have HK := Lib.hid hSk
    clear hSk hset hown7 hg7 hat7 hg7b e0 e1 r0 x0 x1 y0 y1 y2 y3 y4 y5 y6 y7 y8 y9 hs7
    go_wp2_with fail
    go_ret
    exact ⟨rfl, (fun _ => ⟨_, _, _, HQ6.out, HO.out, HBS.out⟩), hB7.setCell (p := ⟨bs, 1, none⟩) HBS.out _,
      (fun k cc fr hne hk => by rw [Below.heap_setCell _ _ _ _ hne]; exact HK.out 25 (by decide) _ _ _ (Same.below hb0 _ _ _ hk)), by simp [World.setCell]; omega⟩
end Go.Proofs.YtldmofffogjlkaaDoor

/- Plain: what change.do makes of a schema. No condition. -/
namespace Go.Proofs.YtldmofffogjlkaaDoor
open Go Go.RowKit

def chgE (s : Scm) (c : Chg) : Int := if c.what = 1 ∨ c.what = 5 then 0 else if c.what = 2 then dropE s c.name else if c.what = 3 ∨ c.what = 4 ∨ c.what = 7 then fieldsE s c else if c.what = 6 ∨ c.what = 8 then bondsE s c else 1
def chgS (s : Scm) (c : Chg) : Scm := if c.what = 1 then akS s c.kind else if c.what = 5 then abS s c.bond else if c.what = 2 then dropS s c.name else if c.what = 3 ∨ c.what = 4 ∨ c.what = 7 then fieldsS s c else bondsS s c
theorem RetSW.first {B bs : Nat} {s : Scm} {err : Int} {w w0 w' : World} {e : Ending} (hb : Below w.heap.size w w0) (hB : B ≤ w.heap.size) (h : RetSW B bs s err w0 e w') : RetSW B bs s err w e w' := by
  obtain ⟨h1, h2, h3, h4, h5⟩ := h
  exact ⟨h1, h2, (hb.mono hB).trans h3, fun k c fr hne hk => h4 k c fr hne (Same.below hb _ _ _ hk), by have := hb.size; omega⟩
theorem SW.below {w w' : World} {B bs : Nat} {vk vb : Value} {s : Scm} {xs : List Value} (h : SW w B bs vk vb s xs) (hb : Below w.heap.size w w') : SW w' B bs vk vb s xs :=
  ⟨(hb.block _ (Array.getElem?_eq_some_iff.1 h.q).1).trans h.q, h.o.below hb, h.l⟩
end Go.Proofs.YtldmofffogjlkaaDoor

/- Contract: change.do, where a kind is dropped. -/
namespace Go.Proofs.YtldmofffogjlkaaDoor
open Go Go.RowKit


set_option maxRecDepth 100000 in
set_option maxHeartbeats 8000000 in
theorem cdo2_any (s : Scm) (c : Chg) (bs : Nat) (vk vb vo vf : Value) (xs : List Value) (B : Nat) (w : World) (hB : B ≤ w.heap.size) (hS : SW w B bs vk vb s xs) (hc : ChgR w vo vf c) (hkl : s.kinds.length ≤ 1000) (hw1 : c.what = 2) :
    Calls Tryd.prog 34 #[.pointer (some ⟨bs, 0, none⟩), .agg (chgCells c vo vf)] w (RetSW B bs (dropS s c.name) (dropE s c.name) w) := by
  obtain ⟨Ak, ck, rfl, _, _⟩ := hS.o.n.form
  obtain ⟨Ab, cb, rfl, _, _⟩ := hS.o.b.form
  obtain ⟨Ao, co, rfl, _, _⟩ := hc.ko.form
  obtain ⟨Af, cf, rfl, _, _⟩ := hc.kf.form
  obtain ⟨what, name, kind, bond, fld, val, tow⟩ := c
  have HCC := Lib.hid hc
  clear hc
  show Calls Tryd.prog 34 #[.pointer (some ⟨bs, 0, none⟩), .agg #[.int .i64 what, .string name, .string kind.name, .slice Ao kind.ofs.length co, .slice Af kind.fields.length cf, .string bond.name, .string bond.src, .string bond.dst, .int .i64 bond.mn, .int .i64 bond.mx, .string fld.name, .int .i64 fld.ty, .bool fld.must, .bool fld.key, .int .i64 val.ty, .int .i64 val.n, .string val.s, .string tow]] w _
  obtain ⟨W0, hW0⟩ : ∃ W0, W0 = w.alloc (.cells #[.int .i64 what, .string name, .string kind.name, .slice Ao kind.ofs.length co, .slice Af kind.fields.length cf, .string bond.name, .string bond.src, .string bond.dst, .int .i64 bond.mn, .int .i64 bond.mx, .string fld.name, .int .i64 fld.ty, .bool fld.must, .bool fld.key, .int .i64 val.ty, .int .i64 val.n, .string val.s, .string tow] 42) := ⟨_, rfl⟩
  have hb0 : Below w.heap.size w W0 := by rw [hW0]; exact (Below.refl _ _).alloc (Nat.le_refl _) _
  have g0 : W0.heap[w.heap.size]? = some (.cells #[.int .i64 what, .string name, .string kind.name, .slice Ao kind.ofs.length co, .slice Af kind.fields.length cf, .string bond.name, .string bond.src, .string bond.dst, .int .i64 bond.mn, .int .i64 bond.mx, .string fld.name, .int .i64 fld.ty, .bool fld.must, .bool fld.key, .int .i64 val.ty, .int .i64 val.n, .string val.s, .string tow] 42 (0, 0)) := by rw [hW0]; exact heap_alloc_new _ _
  have hq0 : W0.heap[bs]? = some (.cells #[.slice Ak s.kinds.length ck, .slice Ab s.bonds.length cb] 25 (0, 0)) := (hb0.block _ (Array.getElem?_eq_some_iff.1 hS.q).1).trans hS.q
  have hW0' := hW0.symm
  have HS0 := Lib.hid (hS.o.below hb0)
  have HC0 := Lib.hid (HCC.out.below hb0)
  have HBS := Lib.hid hS.l
  have hw0 := hb0.size
  have hbsl : bs < w.heap.size := (Array.getElem?_eq_some_iff.1 hS.q).1
  have hsz : W0.heap.size = w.heap.size + 1 := by rw [hW0]; simp
  have HQ0 := Lib.hid hq0
  have HG0 := Lib.hid g0
  have x0 := block_cell hq0 0
  have x1 := block_cell hq0 1
  have y0 := block_cell g0 0
  have y1 := block_cell g0 1
  have y2 := block_cell g0 2
  have y3 := block_cell g0 3
  have y4 := block_cell g0 4
  have y5 := block_cell g0 5
  have y6 := block_cell g0 6
  have y7 := block_cell g0 7
  have y8 := block_cell g0 8
  have y9 := block_cell g0 9
  clear hS hW0 hq0 g0 HCC
  obtain rfl : what = 2 := hw1
  have hSW : SW W0 B bs (.slice Ak s.kinds.length ck) (.slice Ab s.bonds.length cb) s xs := ⟨HQ0.out, HS0.out, HBS.out⟩
  have HRT := Lib.hid ((cdrop_any s name bs _ _ xs B W0 (by omega) hSW hkl).mono (fun e w' h => RetSW.first hb0 hB h))
  generalize hee : dropE s name = ee at *
  generalize hes : dropS s name = es at *
  go_enter Tryd.func34, Tryd.ntmps34
  go_wp2_with fail
  refine HRT.out.mono ?_
  intro e w5 h5
  obtain ⟨rfl, hrest⟩ := h5
  have HREST := Lib.hid hrest
  clear hrest
  go_wp2_with fail
  go_ret
  exact ⟨rfl, HREST.out⟩
end Go.Proofs.YtldmofffogjlkaaDoor

/- Contract: change.do, where fields are others. -/
namespace Go.Proofs.YtldmofffogjlkaaDoor
open Go Go.RowKit


set_option maxRecDepth 100000 in
set_option maxHeartbeats 8000000 in
theorem cdo3_any (s : Scm) (c : Chg) (bs : Nat) (vk vb vo vf : Value) (xs : List Value) (B : Nat) (w : World) (hB : B ≤ w.heap.size) (hS : SW w B bs vk vb s xs) (hc : ChgR w vo vf c) (hr : ∀ d ∈ s.kinds, Rise d.fields ∧ d.fields.length ≤ 1000) (hw1 : c.what = 3) :
    Calls Tryd.prog 34 #[.pointer (some ⟨bs, 0, none⟩), .agg (chgCells c vo vf)] w (RetSW B bs (fieldsS s c) (fieldsE s c) w) := by
  obtain ⟨Ak, ck, rfl, _, _⟩ := hS.o.n.form
  obtain ⟨Ab, cb, rfl, _, _⟩ := hS.o.b.form
  obtain ⟨Ao, co, rfl, _, _⟩ := hc.ko.form
  obtain ⟨Af, cf, rfl, _, _⟩ := hc.kf.form
  obtain ⟨what, name, kind, bond, fld, val, tow⟩ := c
  have HCC := Lib.hid hc
  clear hc
  show Calls Tryd.prog 34 #[.pointer (some ⟨bs, 0, none⟩), .agg #[.int .i64 what, .string name, .string kind.name, .slice Ao kind.ofs.length co, .slice Af kind.fields.length cf, .string bond.name, .string bond.src, .string bond.dst, .int .i64 bond.mn, .int .i64 bond.mx, .string fld.name, .int .i64 fld.ty, .bool fld.must, .bool fld.key, .int .i64 val.ty, .int .i64 val.n, .string val.s, .string tow]] w _
  obtain ⟨W0, hW0⟩ : ∃ W0, W0 = w.alloc (.cells #[.int .i64 what, .string name, .string kind.name, .slice Ao kind.ofs.length co, .slice Af kind.fields.length cf, .string bond.name, .string bond.src, .string bond.dst, .int .i64 bond.mn, .int .i64 bond.mx, .string fld.name, .int .i64 fld.ty, .bool fld.must, .bool fld.key, .int .i64 val.ty, .int .i64 val.n, .string val.s, .string tow] 42) := ⟨_, rfl⟩
  have hb0 : Below w.heap.size w W0 := by rw [hW0]; exact (Below.refl _ _).alloc (Nat.le_refl _) _
  have g0 : W0.heap[w.heap.size]? = some (.cells #[.int .i64 what, .string name, .string kind.name, .slice Ao kind.ofs.length co, .slice Af kind.fields.length cf, .string bond.name, .string bond.src, .string bond.dst, .int .i64 bond.mn, .int .i64 bond.mx, .string fld.name, .int .i64 fld.ty, .bool fld.must, .bool fld.key, .int .i64 val.ty, .int .i64 val.n, .string val.s, .string tow] 42 (0, 0)) := by rw [hW0]; exact heap_alloc_new _ _
  have hq0 : W0.heap[bs]? = some (.cells #[.slice Ak s.kinds.length ck, .slice Ab s.bonds.length cb] 25 (0, 0)) := (hb0.block _ (Array.getElem?_eq_some_iff.1 hS.q).1).trans hS.q
  have hW0' := hW0.symm
  have HS0 := Lib.hid (hS.o.below hb0)
  have HC0 := Lib.hid (HCC.out.below hb0)
  have HBS := Lib.hid hS.l
  have hw0 := hb0.size
  have hbsl : bs < w.heap.size := (Array.getElem?_eq_some_iff.1 hS.q).1
  have hsz : W0.heap.size = w.heap.size + 1 := by rw [hW0]; simp
  have HQ0 := Lib.hid hq0
  have HG0 := Lib.hid g0
  have x0 := block_cell hq0 0
  have x1 := block_cell hq0 1
  have y0 := block_cell g0 0
  have y1 := block_cell g0 1
  have y2 := block_cell g0 2
  have y3 := block_cell g0 3
  have y4 := block_cell g0 4
  have y5 := block_cell g0 5
  have y6 := block_cell g0 6
  have y7 := block_cell g0 7
  have y8 := block_cell g0 8
  have y9 := block_cell g0 9
  clear hS hW0 hq0 g0 HCC
  obtain rfl : what = 3 := hw1
  clear y1 y2 y3 y4 y5 y6 y7 y8 y9
  have hSW : SW W0 B bs (.slice Ak s.kinds.length ck) (.slice Ab s.bonds.length cb) s xs := ⟨HQ0.out, HS0.out, HBS.out⟩
  have HRT := Lib.hid ((cfields_any s ⟨3, name, kind, bond, fld, val, tow⟩ bs _ _ _ _ xs B W0 (by omega) hSW HC0.out hr).mono (fun e w' h => RetSW.first hb0 hB h))
  generalize hee : fieldsE s ⟨3, name, kind, bond, fld, val, tow⟩ = ee at *
  generalize hes : fieldsS s ⟨3, name, kind, bond, fld, val, tow⟩ = es at *
  go_enter Tryd.func34, Tryd.ntmps34
  go_wp2_with (with_reducible refine wpList_load_row rfl 42 _ rfl _ rfl 42 _ (0, 0) _ HG0.out Tryd.underlying42 rfl (by kernel_rfl) ?_)
  refine HRT.out.mono ?_
  intro e w5 h5
  obtain ⟨rfl, hrest⟩ := h5
  have HREST := Lib.hid hrest
  clear hrest
  go_wp2_with fail
  go_ret
  exact ⟨rfl, HREST.out⟩
set_option maxRecDepth 100000 in
set_option maxHeartbeats 8000000 in
theorem cdo4_any (s : Scm) (c : Chg) (bs : Nat) (vk vb vo vf : Value) (xs : List Value) (B : Nat) (w : World) (hB : B ≤ w.heap.size) (hS : SW w B bs vk vb s xs) (hc : ChgR w vo vf c) (hr : ∀ d ∈ s.kinds, Rise d.fields ∧ d.fields.length ≤ 1000) (hw1 : c.what = 4) :
    Calls Tryd.prog 34 #[.pointer (some ⟨bs, 0, none⟩), .agg (chgCells c vo vf)] w (RetSW B bs (fieldsS s c) (fieldsE s c) w) := by
  obtain ⟨Ak, ck, rfl, _, _⟩ := hS.o.n.form
  obtain ⟨Ab, cb, rfl, _, _⟩ := hS.o.b.form
  obtain ⟨Ao, co, rfl, _, _⟩ := hc.ko.form
  obtain ⟨Af, cf, rfl, _, _⟩ := hc.kf.form
  obtain ⟨what, name, kind, bond, fld, val, tow⟩ := c
  have HCC := Lib.hid hc
  clear hc
  show Calls Tryd.prog 34 #[.pointer (some ⟨bs, 0, none⟩), .agg #[.int .i64 what, .string name, .string kind.name, .slice Ao kind.ofs.length co, .slice Af kind.fields.length cf, .string bond.name, .string bond.src, .string bond.dst, .int .i64 bond.mn, .int .i64 bond.mx, .string fld.name, .int .i64 fld.ty, .bool fld.must, .bool fld.key, .int .i64 val.ty, .int .i64 val.n, .string val.s, .string tow]] w _
  obtain ⟨W0, hW0⟩ : ∃ W0, W0 = w.alloc (.cells #[.int .i64 what, .string name, .string kind.name, .slice Ao kind.ofs.length co, .slice Af kind.fields.length cf, .string bond.name, .string bond.src, .string bond.dst, .int .i64 bond.mn, .int .i64 bond.mx, .string fld.name, .int .i64 fld.ty, .bool fld.must, .bool fld.key, .int .i64 val.ty, .int .i64 val.n, .string val.s, .string tow] 42) := ⟨_, rfl⟩
  have hb0 : Below w.heap.size w W0 := by rw [hW0]; exact (Below.refl _ _).alloc (Nat.le_refl _) _
  have g0 : W0.heap[w.heap.size]? = some (.cells #[.int .i64 what, .string name, .string kind.name, .slice Ao kind.ofs.length co, .slice Af kind.fields.length cf, .string bond.name, .string bond.src, .string bond.dst, .int .i64 bond.mn, .int .i64 bond.mx, .string fld.name, .int .i64 fld.ty, .bool fld.must, .bool fld.key, .int .i64 val.ty, .int .i64 val.n, .string val.s, .string tow] 42 (0, 0)) := by rw [hW0]; exact heap_alloc_new _ _
  have hq0 : W0.heap[bs]? = some (.cells #[.slice Ak s.kinds.length ck, .slice Ab s.bonds.length cb] 25 (0, 0)) := (hb0.block _ (Array.getElem?_eq_some_iff.1 hS.q).1).trans hS.q
  have hW0' := hW0.symm
  have HS0 := Lib.hid (hS.o.below hb0)
  have HC0 := Lib.hid (HCC.out.below hb0)
  have HBS := Lib.hid hS.l
  have hw0 := hb0.size
  have hbsl : bs < w.heap.size := (Array.getElem?_eq_some_iff.1 hS.q).1
  have hsz : W0.heap.size = w.heap.size + 1 := by rw [hW0]; simp
  have HQ0 := Lib.hid hq0
  have HG0 := Lib.hid g0
  have x0 := block_cell hq0 0
  have x1 := block_cell hq0 1
  have y0 := block_cell g0 0
  have y1 := block_cell g0 1
  have y2 := block_cell g0 2
  have y3 := block_cell g0 3
  have y4 := block_cell g0 4
  have y5 := block_cell g0 5
  have y6 := block_cell g0 6
  have y7 := block_cell g0 7
  have y8 := block_cell g0 8
  have y9 := block_cell g0 9
  clear hS hW0 hq0 g0 HCC
  obtain rfl : what = 4 := hw1
  clear y1 y2 y3 y4 y5 y6 y7 y8 y9
  have hSW : SW W0 B bs (.slice Ak s.kinds.length ck) (.slice Ab s.bonds.length cb) s xs := ⟨HQ0.out, HS0.out, HBS.out⟩
  have HRT := Lib.hid ((cfields_any s ⟨4, name, kind, bond, fld, val, tow⟩ bs _ _ _ _ xs B W0 (by omega) hSW HC0.out hr).mono (fun e w' h => RetSW.first hb0 hB h))
  generalize hee : fieldsE s ⟨4, name, kind, bond, fld, val, tow⟩ = ee at *
  generalize hes : fieldsS s ⟨4, name, kind, bond, fld, val, tow⟩ = es at *
  go_enter Tryd.func34, Tryd.ntmps34
  go_wp2_with (with_reducible refine wpList_load_row rfl 42 _ rfl _ rfl 42 _ (0, 0) _ HG0.out Tryd.underlying42 rfl (by kernel_rfl) ?_)
  refine HRT.out.mono ?_
  intro e w5 h5
  obtain ⟨rfl, hrest⟩ := h5
  have HREST := Lib.hid hrest
  clear hrest
  go_wp2_with fail
  go_ret
  exact ⟨rfl, HREST.out⟩
set_option maxRecDepth 100000 in
set_option maxHeartbeats 8000000 in
theorem cdo7_any (s : Scm) (c : Chg) (bs : Nat) (vk vb vo vf : Value) (xs : List Value) (B : Nat) (w : World) (hB : B ≤ w.heap.size) (hS : SW w B bs vk vb s xs) (hc : ChgR w vo vf c) (hr : ∀ d ∈ s.kinds, Rise d.fields ∧ d.fields.length ≤ 1000) (hw1 : c.what = 7) :
    Calls Tryd.prog 34 #[.pointer (some ⟨bs, 0, none⟩), .agg (chgCells c vo vf)] w (RetSW B bs (fieldsS s c) (fieldsE s c) w) := by
  obtain ⟨Ak, ck, rfl, _, _⟩ := hS.o.n.form
  obtain ⟨Ab, cb, rfl, _, _⟩ := hS.o.b.form
  obtain ⟨Ao, co, rfl, _, _⟩ := hc.ko.form
  obtain ⟨Af, cf, rfl, _, _⟩ := hc.kf.form
  obtain ⟨what, name, kind, bond, fld, val, tow⟩ := c
  have HCC := Lib.hid hc
  clear hc
  show Calls Tryd.prog 34 #[.pointer (some ⟨bs, 0, none⟩), .agg #[.int .i64 what, .string name, .string kind.name, .slice Ao kind.ofs.length co, .slice Af kind.fields.length cf, .string bond.name, .string bond.src, .string bond.dst, .int .i64 bond.mn, .int .i64 bond.mx, .string fld.name, .int .i64 fld.ty, .bool fld.must, .bool fld.key, .int .i64 val.ty, .int .i64 val.n, .string val.s, .string tow]] w _
  obtain ⟨W0, hW0⟩ : ∃ W0, W0 = w.alloc (.cells #[.int .i64 what, .string name, .string kind.name, .slice Ao kind.ofs.length co, .slice Af kind.fields.length cf, .string bond.name, .string bond.src, .string bond.dst, .int .i64 bond.mn, .int .i64 bond.mx, .string fld.name, .int .i64 fld.ty, .bool fld.must, .bool fld.key, .int .i64 val.ty, .int .i64 val.n, .string val.s, .string tow] 42) := ⟨_, rfl⟩
  have hb0 : Below w.heap.size w W0 := by rw [hW0]; exact (Below.refl _ _).alloc (Nat.le_refl _) _
  have g0 : W0.heap[w.heap.size]? = some (.cells #[.int .i64 what, .string name, .string kind.name, .slice Ao kind.ofs.length co, .slice Af kind.fields.length cf, .string bond.name, .string bond.src, .string bond.dst, .int .i64 bond.mn, .int .i64 bond.mx, .string fld.name, .int .i64 fld.ty, .bool fld.must, .bool fld.key, .int .i64 val.ty, .int .i64 val.n, .string val.s, .string tow] 42 (0, 0)) := by rw [hW0]; exact heap_alloc_new _ _
  have hq0 : W0.heap[bs]? = some (.cells #[.slice Ak s.kinds.length ck, .slice Ab s.bonds.length cb] 25 (0, 0)) := (hb0.block _ (Array.getElem?_eq_some_iff.1 hS.q).1).trans hS.q
  have hW0' := hW0.symm
  have HS0 := Lib.hid (hS.o.below hb0)
  have HC0 := Lib.hid (HCC.out.below hb0)
  have HBS := Lib.hid hS.l
  have hw0 := hb0.size
  have hbsl : bs < w.heap.size := (Array.getElem?_eq_some_iff.1 hS.q).1
  have hsz : W0.heap.size = w.heap.size + 1 := by rw [hW0]; simp
  have HQ0 := Lib.hid hq0
  have HG0 := Lib.hid g0
  have x0 := block_cell hq0 0
  have x1 := block_cell hq0 1
  have y0 := block_cell g0 0
  have y1 := block_cell g0 1
  have y2 := block_cell g0 2
  have y3 := block_cell g0 3
  have y4 := block_cell g0 4
  have y5 := block_cell g0 5
  have y6 := block_cell g0 6
  have y7 := block_cell g0 7
  have y8 := block_cell g0 8
  have y9 := block_cell g0 9
  clear hS hW0 hq0 g0 HCC
  obtain rfl : what = 7 := hw1
  clear y1 y2 y3 y4 y5 y6 y7 y8 y9
  have hSW : SW W0 B bs (.slice Ak s.kinds.length ck) (.slice Ab s.bonds.length cb) s xs := ⟨HQ0.out, HS0.out, HBS.out⟩
  have HRT := Lib.hid ((cfields_any s ⟨7, name, kind, bond, fld, val, tow⟩ bs _ _ _ _ xs B W0 (by omega) hSW HC0.out hr).mono (fun e w' h => RetSW.first hb0 hB h))
  generalize hee : fieldsE s ⟨7, name, kind, bond, fld, val, tow⟩ = ee at *
  generalize hes : fieldsS s ⟨7, name, kind, bond, fld, val, tow⟩ = es at *
  go_enter Tryd.func34, Tryd.ntmps34
  go_wp2_with (with_reducible refine wpList_load_row rfl 42 _ rfl _ rfl 42 _ (0, 0) _ HG0.out Tryd.underlying42 rfl (by kernel_rfl) ?_)
  refine HRT.out.mono ?_
  intro e w5 h5
  obtain ⟨rfl, hrest⟩ := h5
  have HREST := Lib.hid hrest
  clear hrest
  go_wp2_with fail
  go_ret
  exact ⟨rfl, HREST.out⟩
end Go.Proofs.YtldmofffogjlkaaDoor
