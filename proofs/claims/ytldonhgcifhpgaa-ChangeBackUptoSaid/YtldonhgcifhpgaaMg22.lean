/- Parts: ChK, SamA. -/
import Derived.Test.YtldonhgcifhpgaaMg21
import Derived.Laws.Rows
import Derived.Deep.DeepCutAuto
import Derived.Test.YtldonhgcifhpgaaMg09
import Derived.Test.YtldonhgcifhpgaaMg04
/- Contract: change.Do. -/
namespace Go.Proofs.Ytldonhgcifhpgaa
open Go Go.RowKit

/-- A schema, and an error. -/
def RetSS (s : Scm) (err : Int) (w : World) (e : Ending) (w' : World) : Prop := ∃ vk vb, e = .returned (.tuple #[.agg #[vk, vb], errV err]) ∧ ScmR w' vk vb s ∧ Below w.heap.size w w'
theorem OwnKnds.mono {w : World} {B B' : Nat} (hB : B' ≤ B) : ∀ {l : List Knd} {xs : List Value}, OwnKnds w B l xs → OwnKnds w B' l xs
  | [], _, h => h
  | _ :: _, _, h => by
    obtain ⟨u, x, ys, rfl, a1, a2, a3, a4, a5, a6⟩ := h
    exact ⟨u, x, ys, rfl, a1, a2, a3.mono hB, a4, a5.mono hB, a6.mono hB⟩
theorem OwnS.mono {w : World} {B B' : Nat} {vk vb : Value} {s : Scm} {xs : List Value} (h : OwnS w B vk vb s xs) (hB : B' ≤ B) : OwnS w B' vk vb s xs := ⟨h.n.mono hB, h.o.mono hB, h.b.mono hB, h.k, h.d⟩
set_option maxRecDepth 100000 in
set_option maxHeartbeats 16000000 in
theorem cDo_any (s : Scm) (c : Chg) (vk vb vo vf : Value) (w : World) (hS : ScmR w vk vb s) (hC : ChgR w vo vf c) (ho : c.kind.ofs.length ≤ 1048576) (hf : c.kind.fields.length ≤ 1048576) :
    Calls Try.prog 8 #[.agg #[vk, vb], .agg (chgCells c vo vf)] w (RetSS (cdoS s c) (cdoE s c) w) := by
  obtain ⟨Ak, ck, rfl, _, _⟩ := hS.1.form
  obtain ⟨Ab, cb, rfl, _, _⟩ := hS.2.form
  obtain ⟨Ao, co, rfl, _, _⟩ := hC.ko.form
  obtain ⟨Af, cf, rfl, _, _⟩ := hC.kf.form
  obtain ⟨cE, hcE⟩ : ∃ x, x = chgE s c := ⟨_, rfl⟩
  obtain ⟨cS, hcS⟩ : ∃ x, x = chgS s c := ⟨_, rfl⟩
  obtain ⟨dE, hdE⟩ : ∃ x, x = cdoE s c := ⟨_, rfl⟩
  obtain ⟨dS, hdS⟩ : ∃ x, x = cdoS s c := ⟨_, rfl⟩
  have HDE : Hid (dE = if (scmE s).2 = 0 then (if cE = 0 then (scmE cS).2 else cE) else (scmE s).2) := by rw [hdE, hcE, hcS]; rfl
  have HDS : Hid (dS = if dE = 0 then cS else ⟨[], []⟩) := by rw [hdS, hdE, hcS]; rfl
  have HDO : Hid (∀ (bs : Nat) (vk vb : Value) (xs : List Value) (B : Nat) (W : World), Below w.heap.size w W → B ≤ W.heap.size → SW W B bs vk vb s xs → ScmOk s →
      Calls Try.prog 31 #[.pointer (some ⟨bs, 0, none⟩), .agg (chgCells c (.slice Ao c.kind.ofs.length co) (.slice Af c.kind.fields.length cf))] W (RetSW B bs cS cE W)) := fun bs vk vb xs B W h0 h1 h2 h3 => by
    rw [hcE, hcS]
    exact cdo_any s c bs vk vb _ _ xs B W h1 h2 (hC.below h0) (by have := h3.r.len; omega) (by have := h3.bl; omega) (fun d hd => ⟨(h3.r.flds hd).2.1, by have := (h3.r.flds hd).2.2; omega⟩) ho hf
  rw [← hdE, ← hdS]
  clear hcE hcS hdE hdS ho hf hC
  obtain ⟨what, name, kind, bond, fld, val, tow⟩ := c
  show Calls Try.prog 8 #[.agg #[.slice Ak s.kinds.length ck, .slice Ab s.bonds.length cb], .agg 
    #[.int .i64 what, .string name, .string kind.name, .slice Ao kind.ofs.length co, .slice Af kind.fields.length cf, .string bond.name, .string bond.src, .string bond.dst, .int .i64 bond.mn, .int .i64 bond.mx, .string fld.name, .int .i64 fld.ty, .bool fld.must, .bool fld.key, .int .i64 val.ty, .int .i64 val.n, .string val.s, .string tow]] w _
  have HDO2 : Hid (∀ (bs : Nat) (vk vb : Value) (xs : List Value) (B : Nat) (W : World), Below w.heap.size w W → B ≤ W.heap.size → SW W B bs vk vb s xs → ScmOk s →
      Calls Try.prog 31 #[.pointer (some ⟨bs, 0, none⟩), .agg 
    #[.int .i64 what, .string name, .string kind.name, .slice Ao kind.ofs.length co, .slice Af kind.fields.length cf, .string bond.name, .string bond.src, .string bond.dst, .int .i64 bond.mn, .int .i64 bond.mx, .string fld.name, .int .i64 fld.ty, .bool fld.must, .bool fld.key, .int .i64 val.ty, .int .i64 val.n, .string val.s, .string tow]] W (RetSW B bs cS cE W)) := HDO.out
  clear HDO
  obtain ⟨W0, hW0⟩ : ∃ W0, W0 = (((w.alloc (.cells #[.slice Ak s.kinds.length ck, .slice Ab s.bonds.length cb] 25)).alloc (.cells #[.int .i64 what, .string name, .string kind.name, .slice Ao kind.ofs.length co, .slice Af kind.fields.length cf, .string bond.name, .string bond.src, .string bond.dst, .int .i64 bond.mn, .int .i64 bond.mx, .string fld.name, .int .i64 fld.ty, .bool fld.must, .bool fld.key, .int .i64 val.ty, .int .i64 val.n, .string val.s, .string tow] 37)).alloc (.cells #[.slice none 0 0, .slice none 0 0] 25)) := ⟨_, rfl⟩
  have hb0 : Below w.heap.size w W0 := by rw [hW0]; exact (((Below.refl _ _).alloc (Nat.le_refl _) _).alloc (by simp) _).alloc (by simp; omega) _
  have g0 : W0.heap[w.heap.size]? = some (.cells #[.slice Ak s.kinds.length ck, .slice Ab s.bonds.length cb] 25 (0, 0)) := by
    rw [hW0, Below.heap_alloc _ _ _ (by simp; omega), Below.heap_alloc _ _ _ (by simp)]; exact heap_alloc_new _ _
  have g1 : W0.heap[w.heap.size + 1]? = some (.cells #[.int .i64 what, .string name, .string kind.name, .slice Ao kind.ofs.length co, .slice Af kind.fields.length cf, .string bond.name, .string bond.src, .string bond.dst, .int .i64 bond.mn, .int .i64 bond.mx, .string fld.name, .int .i64 fld.ty, .bool fld.must, .bool fld.key, .int .i64 val.ty, .int .i64 val.n, .string val.s, .string tow] 37 (0, 0)) := by
    rw [hW0, Below.heap_alloc _ _ _ (by simp)]
    have := heap_alloc_new (w.alloc (.cells #[.slice Ak s.kinds.length ck, .slice Ab s.bonds.length cb] 25)) (.cells #[.int .i64 what, .string name, .string kind.name, .slice Ao kind.ofs.length co, .slice Af kind.fields.length cf, .string bond.name, .string bond.src, .string bond.dst, .int .i64 bond.mn, .int .i64 bond.mx, .string fld.name, .int .i64 fld.ty, .bool fld.must, .bool fld.key, .int .i64 val.ty, .int .i64 val.n, .string val.s, .string tow] 37); simpa using this
  have g2 : W0.heap[w.heap.size + 1 + 1]? = some (.cells #[.slice none 0 0, .slice none 0 0] 25 (0, 0)) := by
    have := heap_alloc_new ((w.alloc (.cells #[.slice Ak s.kinds.length ck, .slice Ab s.bonds.length cb] 25)).alloc (.cells #[.int .i64 what, .string name, .string kind.name, .slice Ao kind.ofs.length co, .slice Af kind.fields.length cf, .string bond.name, .string bond.src, .string bond.dst, .int .i64 bond.mn, .int .i64 bond.mx, .string fld.name, .int .i64 fld.ty, .bool fld.must, .bool fld.key, .int .i64 val.ty, .int .i64 val.n, .string val.s, .string tow] 37)) (.cells #[.slice none 0 0, .slice none 0 0] 25); rw [hW0]; simpa using this
  have hsz : W0.heap.size = w.heap.size + 3 := by rw [hW0]; simp
  have hW0' := hW0.symm
  have HG := Lib.hid (hS.below hb0)
  have hck := sright_any s _ _ W0 (hS.below hb0)
  have x0 := block_cell g0 0
  have x1 := block_cell g0 1
  clear hS hW0
  go_enter Try.func8, Try.ntmps8
  go_wp2_with fail
  refine hck.mono ?_
  clear hck
  rintro e w1 ⟨rfl, hb1⟩
  have hB1 := hb0.trans (hb1.mono hb0.size)
  have m0 := (hb1.block _ (Array.getElem?_eq_some_iff.1 g0).1).trans g0
  have m1 := (hb1.block _ (Array.getElem?_eq_some_iff.1 g1).1).trans g1
  have m2 := (hb1.block _ (Array.getElem?_eq_some_iff.1 g2).1).trans g2
  have hs1 := hb1.size
  clear g0 g1 g2 x0 x1
  generalize hz : (scmE s).2 = z at *
  have HZ := Lib.hid hz
  clear hz
  by_cases he : z = 0
  case neg =>
    have HEE : Hid (errV dE = .iface 98 (.int .i64 z) ∧ dS = ⟨[], []⟩) := by
      have h0 : dE = z := by rw [HDE.out, if_neg he]
      exact ⟨by rw [h0]; exact errV_some he, by rw [HDS.out, h0, if_neg he]⟩
    rw [errV_some he]
    clear he HDE HDS
    have a5 := block_free m2 0
    have a6 := block_free m2 1
    have a7 := block_cell m2 0
    have a8 := block_cell m2 1
    have HP4 := Lib.hid (setCell_block (setCell_block m2 0 (.slice none 0 0)) 1 (.slice none 0 0))
    clear m2
    go_wp2_with fail
    have k2 := block_cell HP4.out 0
    have k3 := block_cell HP4.out 1
    exact bodyPost_ret (v := .tuple #[.agg #[.slice none 0 0, .slice none 0 0], .iface 98 (.int .i64 (z))]) (by simp [results, Try.results8, go_sem, k2, k3]) rfl
      ⟨.slice none 0 0, .slice none 0 0, by rw [HEE.out.1], by rw [HEE.out.2]; exact ⟨Sl.nil 0 (Nat.zero_le _) none, Sl.nil 0 (Nat.zero_le _) none⟩, (hB1.setCell (p := ⟨w.heap.size + 1 + 1, 0, none⟩) (by show w.heap.size ≤ w.heap.size + 1 + 1; omega) _).setCell (p := ⟨w.heap.size + 1 + 1, 1, none⟩) (by show w.heap.size ≤ w.heap.size + 1 + 1; omega) _⟩
  have HOK : Hid (ScmOk s) := scmE_zero (HZ.out.trans he)
  have HDE2 : Hid (dE = if cE = 0 then (scmE cS).2 else cE) := by unfold Hid; rw [HDE.out, if_pos he]
  rw [errV_zero he]
  have hown := ownSchema_any s _ _ w1 (HG.out.below hb1) (by have := HOK.out.r.len; omega) (by have := HOK.out.bl; omega) (fun d hd => by
    obtain ⟨i, hi⟩ := List.mem_iff_getElem?.1 hd
    have h := HOK.out.r.one i d hi
    have h1 := h.ofl
    have h2 := h.fll
    omega)
  have x0 := block_cell m0 0
  have x1 := block_cell m0 1
  have M0 := Lib.hid m0
  have M1 := Lib.hid m1
  have M2 := Lib.hid m2
  have HBB := Lib.hid hB1
  clear he HDE m0 m1 m2 hb0 hb1 hB1 HG HZ hsz
  go_upto_region 4 with fail
  go_wp2_with fail
  refine hown.mono ?_
  clear hown
  rintro e w2 ⟨un, ut, xs, rfl, ho2, hb2⟩
  obtain ⟨A2, c2, rfl, _, _⟩ := ho2.n.form
  obtain ⟨A3, c3, rfl, _, _⟩ := ho2.b.form
  have n0 := (hb2.block _ (Array.getElem?_eq_some_iff.1 M0.out).1).trans M0.out
  have n1 := Lib.hid ((hb2.block _ (Array.getElem?_eq_some_iff.1 M1.out).1).trans M1.out)
  have n2 := Lib.hid ((hb2.block _ (Array.getElem?_eq_some_iff.1 M2.out).1).trans M2.out)
  have q0 := block_cell n0 0
  have q1 := block_cell n0 1
  have f0 := block_free n0 0
  have f1 := block_free n0 1
  obtain ⟨W3, hW3⟩ : ∃ W3, W3 = (w2.setCell ⟨w.heap.size, 0, none⟩ (.slice A2 s.kinds.length c2)).setCell ⟨w.heap.size, 1, none⟩ (.slice A3 s.bonds.length c3) := ⟨_, rfl⟩
  have hp1 := setCell_block n0 0 (.slice A2 s.kinds.length c2)
  have hp2 := setCell_block hp1 1 (.slice A3 s.bonds.length c3)
  rw [← hW3] at hp2
  have hsm : ∀ T, 25 ≠ T → Same T w2 W3 := fun T hT => by
    rw [hW3]
    exact (Same.setCell (p := ⟨w.heap.size, 0, none⟩) n0 hT _).trans (Same.setCell (p := ⟨w.heap.size, 1, none⟩) hp1 hT _)
  have hB2 : Below w.heap.size w w2 := HBB.out.trans (hb2.mono HBB.out.size)
  have hB3 : Below w.heap.size w W3 := by
    rw [hW3]; exact (hB2.setCell (p := ⟨w.heap.size, 0, none⟩) (Nat.le_refl _) _).setCell (p := ⟨w.heap.size, 1, none⟩) (Nat.le_refl _) _
  have hs3 : W3.heap.size = w2.heap.size := by rw [hW3]; simp [World.setCell]
  have p1 := (show W3.heap[w.heap.size + 1]? = w2.heap[w.heap.size + 1]? by rw [hW3, Below.heap_setCell _ _ _ _ (by show w.heap.size + 1 ≠ w.heap.size; omega), Below.heap_setCell _ _ _ _ (by show w.heap.size + 1 ≠ w.heap.size; omega)]).trans n1.out
  have p2 := (show W3.heap[w.heap.size + 1 + 1]? = w2.heap[w.heap.size + 1 + 1]? by rw [hW3, Below.heap_setCell _ _ _ _ (by show w.heap.size + 1 + 1 ≠ w.heap.size; omega), Below.heap_setCell _ _ _ _ (by show w.heap.size + 1 + 1 ≠ w.heap.size; omega)]).trans n2.out
  have hSW : SW W3 w.heap.size w.heap.size (.slice A2 s.kinds.length c2) (.slice A3 s.bonds.length c3) s xs := ⟨hp2, (ho2.same (hsm _ (by decide)) (hsm _ (by decide)) (hsm _ (by decide)) (hsm _ (by decide))).mono HBB.out.size, Nat.le_refl _⟩
  have hdo := HDO2.out w.heap.size _ _ xs w.heap.size W3 hB3 hB3.size hSW HOK.out
  have HB3 := Lib.hid hB3
  have hW3' := hW3.symm
  have P1 := Lib.hid p1
  have P2 := Lib.hid p2
  clear hW3 hp1 hp2 hsm ho2 hb2 hB2 hB3 hSW p1 p2 n0 n1 n2 M0 M1 M2 HBB HDO2 HOK x0 x1
  go_upto_region 5 with fail
  rw [hW3'] at *
  clear q0 q1 f0 f1 hW3' hs3
  go_wp2_with (with_reducible refine wpList_load_row rfl 37 _ rfl _ rfl 37 _ (0, 0) _ P1.out Try.underlying37 rfl (by kernel_rfl) ?_)
  refine hdo.mono ?_
  clear hdo
  rintro e w4 ⟨rfl, hsw, hb4, hsch, hsz4⟩
  have P4 := Lib.hid (hsch _ _ _ (by omega) P2.out)
  have HB4 := Lib.hid (HB3.out.trans hb4)
  have HSW := Lib.hid hsw
  clear hsw hb4 hsch hsz4 P1 P2 HB3
  by_cases he : cE = 0
  case neg =>
    have HEE : Hid (errV dE = .iface 98 (.int .i64 cE) ∧ dS = ⟨[], []⟩) := by
      have h0 : dE = cE := by rw [HDE2.out, if_neg he]
      exact ⟨by rw [h0]; exact errV_some he, by rw [HDS.out, h0, if_neg he]⟩
    rw [errV_some he]
    clear he HDE2 HDS
    have a5 := block_free P4.out 0
    have a6 := block_free P4.out 1
    have a7 := block_cell P4.out 0
    have a8 := block_cell P4.out 1
    have HP4 := Lib.hid (setCell_block (setCell_block P4.out 0 (.slice none 0 0)) 1 (.slice none 0 0))
    clear HSW
    go_wp2_with fail
    have k2 := block_cell HP4.out 0
    have k3 := block_cell HP4.out 1
    exact bodyPost_ret (v := .tuple #[.agg #[.slice none 0 0, .slice none 0 0], .iface 98 (.int .i64 (cE))]) (by simp [results, Try.results8, go_sem, k2, k3]) rfl
      ⟨.slice none 0 0, .slice none 0 0, by rw [HEE.out.1], by rw [HEE.out.2]; exact ⟨Sl.nil 0 (Nat.zero_le _) none, Sl.nil 0 (Nat.zero_le _) none⟩, (HB4.out.setCell (p := ⟨w.heap.size + 1 + 1, 0, none⟩) (by show w.heap.size ≤ w.heap.size + 1 + 1; omega) _).setCell (p := ⟨w.heap.size + 1 + 1, 1, none⟩) (by show w.heap.size ≤ w.heap.size + 1 + 1; omega) _⟩
  obtain ⟨vk, vb, ys, hsw⟩ := HSW.out he
  have HDE3 : Hid (dE = (scmE cS).2) := by unfold Hid; rw [HDE2.out, if_pos he]
  rw [errV_zero he]
  obtain ⟨A4, c4, hv4, _, _⟩ := hsw.o.n.form
  obtain ⟨A5, c5, hv5, _, _⟩ := hsw.o.b.form
  generalize hn4 : cS.kinds.length = n4 at *
  generalize hn5 : cS.bonds.length = n5 at *
  subst hv4
  subst hv5
  have HN : Hid (OwnS w4 w.heap.size (.slice A4 n4 c4) (.slice A5 n5 c5) cS ys) := hsw.o
  have x0 := block_cell hsw.q 0
  have x1 := block_cell hsw.q 1
  have HQ := Lib.hid hsw.q
  have hck := sright_any cS _ _ w4 HN.out.r
  generalize hz : (scmE cS).2 = z2 at *
  clear hsw HSW HDE2 he hn4 hn5 hz
  go_upto_region 8 with fail
  go_wp2_with fail
  refine hck.mono ?_
  clear hck
  rintro e w5 ⟨rfl, hb5⟩
  have P5 := Lib.hid ((hb5.block _ (Array.getElem?_eq_some_iff.1 P4.out).1).trans P4.out)
  have HB5 := Lib.hid (HB4.out.trans (hb5.mono HB4.out.size))
  have x0 := cell_below hb5 x0
  have x1 := cell_below hb5 x1
  have HN5 := Lib.hid (HN.out.below hb5)
  clear hb5 HB4 P4 HN HQ
  by_cases he : z2 = 0
  case neg =>
    have HEE : Hid (errV dE = .iface 98 (.int .i64 z2) ∧ dS = ⟨[], []⟩) := by
      exact ⟨by rw [HDE3.out]; exact errV_some he, by rw [HDS.out, HDE3.out, if_neg he]⟩
    rw [errV_some he]
    clear he HDE3 HDS
    have a5 := block_free P5.out 0
    have a6 := block_free P5.out 1
    have a7 := block_cell P5.out 0
    have a8 := block_cell P5.out 1
    have HP4 := Lib.hid (setCell_block (setCell_block P5.out 0 (.slice none 0 0)) 1 (.slice none 0 0))
    clear HN5
    go_wp2_with fail
    have k2 := block_cell HP4.out 0
    have k3 := block_cell HP4.out 1
    exact bodyPost_ret (v := .tuple #[.agg #[.slice none 0 0, .slice none 0 0], .iface 98 (.int .i64 (z2))]) (by simp [results, Try.results8, go_sem, k2, k3]) rfl
      ⟨.slice none 0 0, .slice none 0 0, by rw [HEE.out.1], by rw [HEE.out.2]; exact ⟨Sl.nil 0 (Nat.zero_le _) none, Sl.nil 0 (Nat.zero_le _) none⟩, (HB5.out.setCell (p := ⟨w.heap.size + 1 + 1, 0, none⟩) (by show w.heap.size ≤ w.heap.size + 1 + 1; omega) _).setCell (p := ⟨w.heap.size + 1 + 1, 1, none⟩) (by show w.heap.size ≤ w.heap.size + 1 + 1; omega) _⟩
  have HEE : Hid (errV dE = .nilIface ∧ dS = cS) := by
    exact ⟨by rw [HDE3.out]; exact errV_zero he, by rw [HDS.out, HDE3.out, if_pos he]⟩
  rw [errV_zero he]
  have f0 := block_free P5.out 0
  have f1 := block_free P5.out 1
  have f2 := block_cell P5.out 0
  have f3 := block_cell P5.out 1
  have hp6 := setCell_block P5.out 0 (.slice A4 n4 c4)
  have HP6 := Lib.hid (setCell_block hp6 1 (.slice A5 n5 c5))
  have HSM : Hid (∀ T, 25 ≠ T → Same T w5 ((w5.setCell ⟨w.heap.size + 1 + 1, 0, none⟩ (.slice A4 n4 c4)).setCell ⟨w.heap.size + 1 + 1, 1, none⟩ (.slice A5 n5 c5))) := fun T hT =>
    (Same.setCell (p := ⟨w.heap.size + 1 + 1, 0, none⟩) P5.out hT _).trans (Same.setCell (p := ⟨w.heap.size + 1 + 1, 1, none⟩) hp6 hT _)
  clear hp6
  clear he HDE3 HDS
  go_wp2_with fail
  have k2 := block_cell HP6.out 0
  have k3 := block_cell HP6.out 1
  exact bodyPost_ret (v := .tuple #[.agg #[.slice A4 n4 c4, .slice A5 n5 c5], .nilIface]) (by simp [results, Try.results8, go_sem, k2, k3]) rfl
    ⟨.slice A4 n4 c4, .slice A5 n5 c5, by rw [HEE.out.1], by rw [HEE.out.2]; exact (HN5.out.same (HSM.out _ (by decide)) (HSM.out _ (by decide)) (HSM.out _ (by decide)) (HSM.out _ (by decide))).r, (HB5.out.setCell (p := ⟨w.heap.size + 1 + 1, 0, none⟩) (by show w.heap.size ≤ w.heap.size + 1 + 1; omega) _).setCell (p := ⟨w.heap.size + 1 + 1, 1, none⟩) (by show w.heap.size ≤ w.heap.size + 1 + 1; omega) _⟩
end Go.Proofs.Ytldonhgcifhpgaa

/- Contracts: kinsame.Texts, kinsame.Fields. No condition. -/
namespace Go.Proofs.Ytldonhgcifhpgaa
open Go Go.RowKit


/-- Two lists, place by place. -/
theorem lists_eq {D : Type} [DecidableEq D] {a b : List D} (hl : a.length = b.length) (h : ∀ j x y, j < a.length → a[j]? = some x → b[j]? = some y → x = y) : a = b := by
  apply List.ext_getElem? 
  intro i
  by_cases hi : i < a.length
  · have h1 := List.getElem?_eq_getElem hi
    have h2 : b[i]? = some b[i] := List.getElem?_eq_getElem (by omega)
    rw [h1, h2, h i _ _ hi h1 h2]
  · rw [List.getElem?_eq_none (by omega), List.getElem?_eq_none (by omega)]
set_option maxHeartbeats 1000000 in
theorem texts_any (a b : List ByteArray) (va vb : Value) (w : World) (ha : Sl strL w va a) (hb : Sl strL w vb b) : Calls Try.prog 34 #[va, vb] w fun e w' => e = .returned (.bool (decide (a = b))) ∧ Below w.heap.size w w' := by
  obtain ⟨A, c, rfl, _, hcm⟩ := ha.form
  obtain ⟨B, d, rfl, _, hdm⟩ := hb.form
  unfold maxLen at hcm hdm
  by_cases hl : a.length = b.length
  case neg =>
    have HE : Hid (decide (a = b) = false) := decide_eq_false fun e => hl (by rw [e])
    have hl' : decide ((a.length : Int) = (b.length : Int)) = false := decide_eq_false (by omega)
    have hl2 : ((a.length : Int) == (b.length : Int)) = false := by rw [beq_eq_false_iff_ne]; omega
    clear ha hb hl
    go_enter Try.func34, Try.ntmps34
    go_wp2_with fail
    go_ret
    exact ⟨by rw [HE.out]; rfl, Below.refl _ _⟩
  have HL := Lib.hid hl
  have hlb : a.length ≤ b.length := by omega
  rw [← hl]
  clear hl
  go_enter Try.func34, Try.ntmps34
  go_wp2_with fail
  go_loopw [5] (fun i wr => ∃ k : Nat, k ≤ a.length ∧ i = .int .i64 k ∧ Below w.heap.size w wr ∧ Hid (∀ j x y, j < k → a[j]? = some x → b[j]? = some y → x = y)) (fun i _ => a.length - (intOf i).toNat)
  case atStart => exact ⟨0, Nat.zero_le _, rfl, Below.refl _ _, fun j x y hj => absurd hj (Nat.not_lt_zero _)⟩
  case round =>
    obtain ⟨k, hk, rfl, hbr, HA⟩ := hrel
    by_cases hlt : k < a.length
    · obtain ⟨x, hx⟩ : ∃ d, a[k]? = some d := ⟨_, List.getElem?_eq_getElem hlt⟩
      obtain ⟨y, hy⟩ : ∃ d, b[k]? = some d := ⟨_, List.getElem?_eq_getElem (by omega)⟩
      have hlt' : (k : Int) < (a.length : Int) := by omega
      obtain ⟨b1, o1, rfl, _, x0⟩ := str_at (ha.below hbr) hx
      obtain ⟨b2, o2, rfl, _, y0⟩ := str_at (hb.below hbr) hy
      have HX := Lib.hid hx
      have HY := Lib.hid hy
      clear hx hy
      by_cases hq : x = y
      · have HS : Hid (∀ j x y, j < k + 1 → a[j]? = some x → b[j]? = some y → x = y) := fun j p q hj hp hq2 => by
          by_cases hjk : j = k
          · subst hjk
            have e1 := HX.out.symm.trans hp
            have e2 := HY.out.symm.trans hq2
            injection e1 with e1; injection e2 with e2
            rw [← e1, ← e2]; exact hq
          · exact HA.out j p q (by omega) hp hq2
        subst hq
        clear ha hb
        go_wp2_with fail
        go_quiet (fail)
        go_wp2_with fail
        go_roundw
        case rel => exact ⟨k + 1, by omega, by go_num, below_drewN hbr _, HS⟩
        case measure => simp [intOf]; omega
      · have HE : Hid (decide (a = b) = false) := decide_eq_false fun e => by
          have e1 := HX.out
          rw [e, HY.out] at e1
          injection e1 with e1
          exact hq e1.symm
        have hqb : (x.toList == y.toList) = false := by rw [bytes_beq]; exact decide_eq_false hq
        have hqc : ¬ x.toList = y.toList := by rw [bytes_eq]; exact hq
        clear ha hb hq
        go_wp2_with fail
        go_quiet (fail)
        go_wp2_with fail
        go_ret
        exact ⟨by rw [HE.out]; rfl, below_drewN hbr _⟩
    · obtain rfl : k = a.length := by omega
      have HE : Hid (decide (a = b) = true) := decide_eq_true (lists_eq HL.out HA.out)
      clear ha hb
      go_wp2_with fail
      go_ret
      exact ⟨by rw [HE.out]; rfl, hbr⟩
set_option maxHeartbeats 1000000 in
theorem sfields_any (a b : List Fld) (va vb : Value) (w : World) (ha : Sl fldL w va a) (hb : Sl fldL w vb b) : Calls Try.prog 35 #[va, vb] w fun e w' => e = .returned (.bool (decide (a = b))) ∧ Below w.heap.size w w' := by
  obtain ⟨A, c, rfl, _, hcm⟩ := ha.form
  obtain ⟨B, d, rfl, _, hdm⟩ := hb.form
  unfold maxLen at hcm hdm
  by_cases hl : a.length = b.length
  case neg =>
    have HE : Hid (decide (a = b) = false) := decide_eq_false fun e => hl (by rw [e])
    have hl' : decide ((a.length : Int) = (b.length : Int)) = false := decide_eq_false (by omega)
    have hl2 : ((a.length : Int) == (b.length : Int)) = false := by rw [beq_eq_false_iff_ne]; omega
    clear ha hb hl
    go_enter Try.func35, Try.ntmps35
    go_wp2_with fail
    go_ret
    exact ⟨by rw [HE.out]; rfl, Below.refl _ _⟩
  have HL := Lib.hid hl
  have hlb : a.length ≤ b.length := by omega
  rw [← hl]
  clear hl
  go_enter Try.func35, Try.ntmps35
  go_wp2_with fail
  go_loopw [5] (fun i wr => ∃ k : Nat, k ≤ a.length ∧ i = .int .i64 k ∧ Below w.heap.size w wr ∧ Hid (∀ j x y, j < k → a[j]? = some x → b[j]? = some y → x = y)) (fun i _ => a.length - (intOf i).toNat)
  case atStart => exact ⟨0, Nat.zero_le _, rfl, Below.refl _ _, fun j x y hj => absurd hj (Nat.not_lt_zero _)⟩
  case round =>
    obtain ⟨k, hk, rfl, hbr, HA⟩ := hrel
    by_cases hlt : k < a.length
    · obtain ⟨x, hx⟩ : ∃ d, a[k]? = some d := ⟨_, List.getElem?_eq_getElem hlt⟩
      obtain ⟨y, hy⟩ : ∃ d, b[k]? = some d := ⟨_, List.getElem?_eq_getElem (by omega)⟩
      have hlt' : (k : Int) < (a.length : Int) := by omega
      obtain ⟨b1, o1, rfl, _, x0, x1, x2, x3⟩ := fld_at (ha.below hbr) hx
      obtain ⟨b2, o2, rfl, _, y0, y1, y2, y3⟩ := fld_at (hb.below hbr) hy
      have hneq := fld_neq x y
      have hgd := fld_guard
      have HX := Lib.hid hx
      have HY := Lib.hid hy
      clear hx hy
      by_cases hq : x = y
      · have HS : Hid (∀ j x y, j < k + 1 → a[j]? = some x → b[j]? = some y → x = y) := fun j p q hj hp hq2 => by
          by_cases hjk : j = k
          · subst hjk
            have e1 := HX.out.symm.trans hp
            have e2 := HY.out.symm.trans hq2
            injection e1 with e1; injection e2 with e2
            rw [← e1, ← e2]; exact hq
          · exact HA.out j p q (by omega) hp hq2
        rw [decide_eq_true hq] at hneq
        clear ha hb hq
        go_wp2_with fail
        go_quiet (fail)
        go_wp2_with fail
        go_roundw
        case rel => exact ⟨k + 1, by omega, by go_num, below_drewN hbr _, HS⟩
        case measure => simp [intOf]; omega
      · have HE : Hid (decide (a = b) = false) := decide_eq_false fun e => by
          have e1 := HX.out
          rw [e, HY.out] at e1
          injection e1 with e1
          exact hq e1.symm
        rw [decide_eq_false hq] at hneq
        clear ha hb hq
        go_wp2_with fail
        go_quiet (fail)
        go_wp2_with fail
        go_ret
        exact ⟨by rw [HE.out]; rfl, below_drewN hbr _⟩
    · obtain rfl : k = a.length := by omega
      have HE : Hid (decide (a = b) = true) := decide_eq_true (lists_eq HL.out HA.out)
      clear ha hb
      go_wp2_with fail
      go_ret
      exact ⟨by rw [HE.out]; rfl, hbr⟩
end Go.Proofs.Ytldonhgcifhpgaa
