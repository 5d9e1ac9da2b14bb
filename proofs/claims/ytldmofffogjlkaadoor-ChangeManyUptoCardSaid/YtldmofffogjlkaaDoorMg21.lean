/- Parts: ChJ6, ChJ8, ChJ. -/
import Derived.Test.YtldmofffogjlkaaDoorMg20
/- Contract: change.do, where bonds are others. -/
namespace Go.Proofs.YtldmofffogjlkaaDoor
open Go Go.RowKit


set_option maxRecDepth 100000 in
set_option maxHeartbeats 8000000 in
theorem cdo6_any (s : Scm) (c : Chg) (bs : Nat) (vk vb vo vf : Value) (xs : List Value) (B : Nat) (w : World) (hB : B ≤ w.heap.size) (hS : SW w B bs vk vb s xs) (hc : ChgR w vo vf c) (hbl : s.bonds.length ≤ 1000) (hw1 : c.what = 6) :
    Calls Tryd.prog 34 #[.pointer (some ⟨bs, 0, none⟩), .agg (chgCells c vo vf)] w (RetSW B bs (bondsS s c) (bondsE s c) w) := by
  obtain ⟨Ak, ck, rfl, _, _⟩ := hS.o.n.form
  obtain ⟨Ab, cb, rfl, _, _⟩ := hS.o.b.form
  obtain ⟨Ao, co, rfl, _, _⟩ := hc.ko.form
  obtain ⟨Af, cf, rfl, _, _⟩ := hc.kf.form
  obtain ⟨what, name, kind, bond, fld, val, tow⟩ := c
  have HCC := Lib.hid hc
  clear hc
  show Calls Tryd.prog 34 #[.pointer (some ⟨bs, 0, none⟩), .agg #[.int .i64 what, .string name, .string kind.name, .slice Ao kind.ofs.length co, .slice Af kind.fields.length cf, .string bond.name, .string bond.src, .string bond.dst, .int .i64 bond.mn, .int .i64 bond.mx, .string fld.name, .int .i64 fld.ty, .bool fld.must, .bool fld.key, .int .i64 val.ty, .int .i64 val.n, .string val.s, .string tow]] w _
  obtain ⟨W0, hW0⟩ : ∃ W0, W0 = w.alloc (.cells #[.int .i64 what, .string name, .string kind.name, .slice Ao kind.ofs.length co, .slice Af kind.fields.length cf, .string bond.name, .string bond.src, .string bond.dst, .int .i64 bond.mn, .int .i64 bond.mx, .string fld.name, .int .i64 fld.ty, .bool fld.must, .bool fld.key, .int .i64 val.ty, .int .i64 val.n, .string val.s, .string tow] 42) := ⟨_, rfl⟩
  have hb0 : Below w.heap.size w W0 := by rw [hW0]; exact (Below.refl _ _).alloc (Nat.le_refl _) _
  have g0 : W0.heap[w.heap.size]? = some (.cells #[.int .i64 what, .string name, .string kind.name, .slice Ao kind.ofs.length co, .slice Af kind.fields.length cf, .string bond.name, .string bond.src, .string bond.dst, .int .i64 bond.mn, .int .i64 bond.mx, .string fld.name, .int .i64 fld.ty, .bool fld.must, .bool fld.key, .int .i64 val.ty, .int .i64 val.n, .string val.s, .string tow] 42 (0, 0)) := by rw [hW0]; exact heap_alloc_new _ _
  have hq0 : W0.heap[bs]? = some (.cells #[.slice Ak s.kinds.length ck, .slice Ab s.bonds.length cb] 25 (0, 0)) := (hb0.block _ (Array.getElem?_eq_some_iff.1 hS.q).1).trans hS.q
  have hW0' := hW0.symm
  have HS0 := Lib.hid (hS.o.below hb0)
  have HC0 := Lib.hid (HCC.out.below hb0)
  have HBS := Lib.hid hS.l
  have hw0 := hb0.size
  have hbsl : bs < w.heap.size := (Array.getElem?_eq_some_iff.1 hS.q).1
  have hsz : W0.heap.size = w.heap.size + 1 := by rw [hW0]; simp
  have HQ0 := Lib.hid hq0
  have HG0 := Lib.hid g0
  have x0 := block_cell hq0 0
  have x1 := block_cell hq0 1
  have y0 := block_cell g0 0
  have y1 := block_cell g0 1
  have y2 := block_cell g0 2
  have y3 := block_cell g0 3
  have y4 := block_cell g0 4
  have y5 := block_cell g0 5
  have y6 := block_cell g0 6
  have y7 := block_cell g0 7
  have y8 := block_cell g0 8
  have y9 := block_cell g0 9
  clear hS hW0 hq0 g0 HCC
  obtain rfl : what = 6 := hw1
  clear y1 y2 y3 y4 y5 y6 y7 y8 y9
  have hSW : SW W0 B bs (.slice Ak s.kinds.length ck) (.slice Ab s.bonds.length cb) s xs := ⟨HQ0.out, HS0.out, HBS.out⟩
  have HRT := Lib.hid ((cbonds_any s ⟨6, name, kind, bond, fld, val, tow⟩ bs _ _ _ _ xs B W0 (by omega) hSW HC0.out hbl).mono (fun e w' h => RetSW.first hb0 hB h))
  generalize hee : bondsE s ⟨6, name, kind, bond, fld, val, tow⟩ = ee at *
  generalize hes : bondsS s ⟨6, name, kind, bond, fld, val, tow⟩ = es at *
  go_enter Tryd.func34, Tryd.ntmps34
  go_wp2_with (with_reducible refine wpList_load_row rfl 42 _ rfl _ rfl 42 _ (0, 0) _ HG0.out Tryd.underlying42 rfl (by kernel_rfl) ?_)
  refine HRT.out.mono ?_
  intro e w5 h5
  obtain ⟨rfl, hrest⟩ := h5
  have HREST := Lib.hid hrest
  clear hrest
  go_wp2_with fail
  go_ret
  exact ⟨rfl, HREST.out⟩
set_option maxRecDepth 100000 in
set_option maxHeartbeats 8000000 in
theorem cdo8_any (s : Scm) (c : Chg) (bs : Nat) (vk vb vo vf : Value) (xs : List Value) (B : Nat) (w : World) (hB : B ≤ w.heap.size) (hS : SW w B bs vk vb s xs) (hc : ChgR w vo vf c) (hbl : s.bonds.length ≤ 1000) (hw1 : c.what = 8) :
    Calls Tryd.prog 34 #[.pointer (some ⟨bs, 0, none⟩), .agg (chgCells c vo vf)] w (RetSW B bs (bondsS s c) (bondsE s c) w) := by
  obtain ⟨Ak, ck, rfl, _, _⟩ := hS.o.n.form
  obtain ⟨Ab, cb, rfl, _, _⟩ := hS.o.b.form
  obtain ⟨Ao, co, rfl, _, _⟩ := hc.ko.form
  obtain ⟨Af, cf, rfl, _, _⟩ := hc.kf.form
  obtain ⟨what, name, kind, bond, fld, val, tow⟩ := c
  have HCC := Lib.hid hc
  clear hc
  show Calls Tryd.prog 34 #[.pointer (some ⟨bs, 0, none⟩), .agg #[.int .i64 what, .string name, .string kind.name, .slice Ao kind.ofs.length co, .slice Af kind.fields.length cf, .string bond.name, .string bond.src, .string bond.dst, .int .i64 bond.mn, .int .i64 bond.mx, .string fld.name, .int .i64 fld.ty, .bool fld.must, .bool fld.key, .int .i64 val.ty, .int .i64 val.n, .string val.s, .string tow]] w _
  obtain ⟨W0, hW0⟩ : ∃ W0, W0 = w.alloc (.cells #[.int .i64 what, .string name, .string kind.name, .slice Ao kind.ofs.length co, .slice Af kind.fields.length cf, .string bond.name, .string bond.src, .string bond.dst, .int .i64 bond.mn, .int .i64 bond.mx, .string fld.name, .int .i64 fld.ty, .bool fld.must, .bool fld.key, .int .i64 val.ty, .int .i64 val.n, .string val.s, .string tow] 42) := ⟨_, rfl⟩
  have hb0 : Below w.heap.size w W0 := by rw [hW0]; exact (Below.refl _ _).alloc (Nat.le_refl _) _
  have g0 : W0.heap[w.heap.size]? = some (.cells #[.int .i64 what, .string name, .string kind.name, .slice Ao kind.ofs.length co, .slice Af kind.fields.length cf, .string bond.name, .string bond.src, .string bond.dst, .int .i64 bond.mn, .int .i64 bond.mx, .string fld.name, .int .i64 fld.ty, .bool fld.must, .bool fld.key, .int .i64 val.ty, .int .i64 val.n, .string val.s, .string tow] 42 (0, 0)) := by rw [hW0]; exact heap_alloc_new _ _
  have hq0 : W0.heap[bs]? = some (.cells #[.slice Ak s.kinds.length ck, .slice Ab s.bonds.length cb] 25 (0, 0)) := (hb0.block _ (Array.getElem?_eq_some_iff.1 hS.q).1).trans hS.q
  have hW0' := hW0.symm
  have HS0 := Lib.hid (hS.o.below hb0)
  have HC0 := Lib.hid (HCC.out.below hb0)
  have HBS := Lib.hid hS.l
  have hw0 := hb0.size
  have hbsl : bs < w.heap.size := (Array.getElem?_eq_some_iff.1 hS.q).1
  have hsz : W0.heap.size = w.heap.size + 1 := by rw [hW0]; simp
  have HQ0 := Lib.hid hq0
  have HG0 := Lib.hid g0
  have x0 := block_cell hq0 0
  have x1 := block_cell hq0 1
  have y0 := block_cell g0 0
  have y1 := block_cell g0 1
  have y2 := block_cell g0 2
  have y3 := block_cell g0 3
  have y4 := block_cell g0 4
  have y5 := block_cell g0 5
  have y6 := block_cell g0 6
  have y7 := block_cell g0 7
  have y8 := block_cell g0 8
  have y9 := block_cell g0 9
  clear hS hW0 hq0 g0 HCC
  obtain rfl : what = 8 := hw1
  clear y1 y2 y3 y4 y5 y6 y7 y8 y9
  have hSW : SW W0 B bs (.slice Ak s.kinds.length ck) (.slice Ab s.bonds.length cb) s xs := ⟨HQ0.out, HS0.out, HBS.out⟩
  have HRT := Lib.hid ((cbonds_any s ⟨8, name, kind, bond, fld, val, tow⟩ bs _ _ _ _ xs B W0 (by omega) hSW HC0.out hbl).mono (fun e w' h => RetSW.first hb0 hB h))
  generalize hee : bondsE s ⟨8, name, kind, bond, fld, val, tow⟩ = ee at *
  generalize hes : bondsS s ⟨8, name, kind, bond, fld, val, tow⟩ = es at *
  go_enter Tryd.func34, Tryd.ntmps34
  go_wp2_with (with_reducible refine wpList_load_row rfl 42 _ rfl _ rfl 42 _ (0, 0) _ HG0.out Tryd.underlying42 rfl (by kernel_rfl) ?_)
  refine HRT.out.mono ?_
  intro e w5 h5
  obtain ⟨rfl, hrest⟩ := h5
  have HREST := Lib.hid hrest
  clear hrest
  go_wp2_with fail
  go_ret
  exact ⟨rfl, HREST.out⟩
end Go.Proofs.YtldmofffogjlkaaDoor

/- Contract: change.do, where nothing is done. -/
namespace Go.Proofs.YtldmofffogjlkaaDoor
open Go Go.RowKit


set_option maxRecDepth 100000 in
set_option maxHeartbeats 8000000 in
theorem cdo0_any (s : Scm) (c : Chg) (bs : Nat) (vk vb vo vf : Value) (xs : List Value) (B : Nat) (w : World) (hB : B ≤ w.heap.size) (hS : SW w B bs vk vb s xs) (hc : ChgR w vo vf c)
    (h1 : ¬ c.what = 1) (h2 : ¬ c.what = 2) (h3 : ¬ c.what = 3) (h4 : ¬ c.what = 4) (h5 : ¬ c.what = 5) (h6 : ¬ c.what = 6) (h7 : ¬ c.what = 7) (h8 : ¬ c.what = 8) (S : Scm) :
    Calls Tryd.prog 34 #[.pointer (some ⟨bs, 0, none⟩), .agg (chgCells c vo vf)] w (RetSW B bs S 1 w) := by
  have b1 : (c.what == 1) = false := beq_eq_false_iff_ne.2 h1
  have b2 : (c.what == 2) = false := beq_eq_false_iff_ne.2 h2
  have b3 : (c.what == 3) = false := beq_eq_false_iff_ne.2 h3
  have b4 : (c.what == 4) = false := beq_eq_false_iff_ne.2 h4
  have b5 : (c.what == 5) = false := beq_eq_false_iff_ne.2 h5
  have b6 : (c.what == 6) = false := beq_eq_false_iff_ne.2 h6
  have b7 : (c.what == 7) = false := beq_eq_false_iff_ne.2 h7
  have b8 : (c.what == 8) = false := beq_eq_false_iff_ne.2 h8
  clear h1 h2 h3 h4 h5 h6 h7 h8
  obtain ⟨Ak, ck, rfl, _, _⟩ := hS.o.n.form
  obtain ⟨Ab, cb, rfl, _, _⟩ := hS.o.b.form
  obtain ⟨Ao, co, rfl, _, _⟩ := hc.ko.form
  obtain ⟨Af, cf, rfl, _, _⟩ := hc.kf.form
  obtain ⟨what, name, kind, bond, fld, val, tow⟩ := c
  have HCC := Lib.hid hc
  clear hc
  show Calls Tryd.prog 34 #[.pointer (some ⟨bs, 0, none⟩), .agg #[.int .i64 what, .string name, .string kind.name, .slice Ao kind.ofs.length co, .slice Af kind.fields.length cf, .string bond.name, .string bond.src, .string bond.dst, .int .i64 bond.mn, .int .i64 bond.mx, .string fld.name, .int .i64 fld.ty, .bool fld.must, .bool fld.key, .int .i64 val.ty, .int .i64 val.n, .string val.s, .string tow]] w _
  obtain ⟨W0, hW0⟩ : ∃ W0, W0 = w.alloc (.cells #[.int .i64 what, .string name, .string kind.name, .slice Ao kind.ofs.length co, .slice Af kind.fields.length cf, .string bond.name, .string bond.src, .string bond.dst, .int .i64 bond.mn, .int .i64 bond.mx, .string fld.name, .int .i64 fld.ty, .bool fld.must, .bool fld.key, .int .i64 val.ty, .int .i64 val.n, .string val.s, .string tow] 42) := ⟨_, rfl⟩
  have hb0 : Below w.heap.size w W0 := by rw [hW0]; exact (Below.refl _ _).alloc (Nat.le_refl _) _
  have g0 : W0.heap[w.heap.size]? = some (.cells #[.int .i64 what, .string name, .string kind.name, .slice Ao kind.ofs.length co, .slice Af kind.fields.length cf, .string bond.name, .string bond.src, .string bond.dst, .int .i64 bond.mn, .int .i64 bond.mx, .string fld.name, .int .i64 fld.ty, .bool fld.must, .bool fld.key, .int .i64 val.ty, .int .i64 val.n, .string val.s, .string tow] 42 (0, 0)) := by rw [hW0]; exact heap_alloc_new _ _
  have hq0 : W0.heap[bs]? = some (.cells #[.slice Ak s.kinds.length ck, .slice Ab s.bonds.length cb] 25 (0, 0)) := (hb0.block _ (Array.getElem?_eq_some_iff.1 hS.q).1).trans hS.q
  have hW0' := hW0.symm
  have HS0 := Lib.hid (hS.o.below hb0)
  have HC0 := Lib.hid (HCC.out.below hb0)
  have HBS := Lib.hid hS.l
  have hw0 := hb0.size
  have hbsl : bs < w.heap.size := (Array.getElem?_eq_some_iff.1 hS.q).1
  have hsz : W0.heap.size = w.heap.size + 1 := by rw [hW0]; simp
  have HQ0 := Lib.hid hq0
  have HG0 := Lib.hid g0
  have x0 := block_cell hq0 0
  have x1 := block_cell hq0 1
  have y0 := block_cell g0 0
  have y1 := block_cell g0 1
  have y2 := block_cell g0 2
  have y3 := block_cell g0 3
  have y4 := block_cell g0 4
  have y5 := block_cell g0 5
  have y6 := block_cell g0 6
  have y7 := block_cell g0 7
  have y8 := block_cell g0 8
  have y9 := block_cell g0 9
  clear hS hW0 hq0 g0 HCC
  simp only at b1 b2 b3 b4 b5 b6 b7 b8
  go_enter Tryd.func34, Tryd.ntmps34
  go_wp2_with fail
  go_ret
  exact ⟨rfl, (fun h => by cases h), hb0.mono hB, (fun k cc fr hne hk => Same.below hb0 _ _ _ hk), hw0⟩
end Go.Proofs.YtldmofffogjlkaaDoor

/- Contract: change.do. -/
namespace Go.Proofs.YtldmofffogjlkaaDoor
open Go Go.RowKit

theorem cdo_any (s : Scm) (c : Chg) (bs : Nat) (vk vb vo vf : Value) (xs : List Value) (B : Nat) (w : World) (hB : B ≤ w.heap.size) (hS : SW w B bs vk vb s xs) (hc : ChgR w vo vf c) (hkl : s.kinds.length ≤ 1000) (hbl : s.bonds.length ≤ 1000)
    (hr : ∀ d ∈ s.kinds, Rise d.fields ∧ d.fields.length ≤ 1000) (ho : c.kind.ofs.length ≤ 1048576) (hf : c.kind.fields.length ≤ 1048576) :
    Calls Tryd.prog 34 #[.pointer (some ⟨bs, 0, none⟩), .agg (chgCells c vo vf)] w (RetSW B bs (chgS s c) (chgE s c) w) := by
  unfold chgS chgE
  by_cases h1 : c.what = 1
  · rw [if_pos h1, if_pos (.inl h1)]; exact cdo1_any s c bs vk vb vo vf xs B w hB hS hc hkl ho hf h1
  by_cases h5 : c.what = 5
  · rw [if_neg h1, if_pos h5, if_pos (.inr h5)]; exact cdo5_any s c bs vk vb vo vf xs B w hB hS hc hbl h5
  rw [if_neg h1, if_neg h5, if_neg (show ¬ (c.what = 1 ∨ c.what = 5) by omega)]
  by_cases h2 : c.what = 2
  · rw [if_pos h2, if_pos h2]; exact cdo2_any s c bs vk vb vo vf xs B w hB hS hc hkl h2
  rw [if_neg h2, if_neg h2]
  by_cases h3 : c.what = 3
  · rw [if_pos (.inl h3), if_pos (.inl h3)]; exact cdo3_any s c bs vk vb vo vf xs B w hB hS hc hr h3
  by_cases h4 : c.what = 4
  · rw [if_pos (.inr (.inl h4)), if_pos (.inr (.inl h4))]; exact cdo4_any s c bs vk vb vo vf xs B w hB hS hc hr h4
  by_cases h7 : c.what = 7
  · rw [if_pos (.inr (.inr h7)), if_pos (.inr (.inr h7))]; exact cdo7_any s c bs vk vb vo vf xs B w hB hS hc hr h7
  rw [if_neg (show ¬ (c.what = 3 ∨ c.what = 4 ∨ c.what = 7) by omega), if_neg (show ¬ (c.what = 3 ∨ c.what = 4 ∨ c.what = 7) by omega)]
  by_cases h6 : c.what = 6
  · rw [if_pos (.inl h6)]; exact cdo6_any s c bs vk vb vo vf xs B w hB hS hc hbl h6
  by_cases h8 : c.what = 8
  · rw [if_pos (.inr h8)]; exact cdo8_any s c bs vk vb vo vf xs B w hB hS hc hbl h8
  rw [if_neg (show ¬ (c.what = 6 ∨ c.what = 8) by omega)]
  exact cdo0_any s c bs vk vb vo vf xs B w hB hS hc h1 h2 h3 h4 h5 h6 h7 h8 _
end Go.Proofs.YtldmofffogjlkaaDoor
