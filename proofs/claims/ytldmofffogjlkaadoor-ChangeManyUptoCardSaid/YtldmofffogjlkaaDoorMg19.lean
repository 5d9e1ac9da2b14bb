/- Parts: ChG, HeldX. -/
import Derived.Test.YtldmofffogjlkaaDoorMg18
import Derived.Deep.RegionHeld3
import Derived.Test.YtldmofffogjlkaaDoorMg04
import Derived.OrdersHeld
/- Contract: change.bonds. -/
namespace Go.Proofs.YtldmofffogjlkaaDoor
open Go Go.RowKit


theorem OwnS.setB {w w' : World} {B n : Nat} {vk vb vb' : Value} {s : Scm} {xs : List Value} {bs' : List Bnd} (h : OwnS w B vk vb s xs) (hn : n = bs'.length) (hb : Own w' B 36 5 vb' n (bs'.flatMap Bnd.enc)) (hk : ∀ x ∈ bs', x.ok)
    (h1 : Same 34 w w') (h2 : Same 9 w w') (h3 : Same 38 w w') : OwnS w' B vk vb' ⟨s.kinds, bs'⟩ xs := by
  subst hn
  exact ⟨h.n.same h1, h.o.same h2 h3, hb, hk, h.d⟩
def rngOf (b : Bnd) (mn mx : Int) : Bnd := ⟨b.name, b.src, b.dst, mn, mx⟩
theorem set_same {α : Type} {xs : List α} {k : Nat} {v : α} (h : xs[k]? = some v) : xs.set k v = xs := by
  apply List.ext_getElem?
  intro j
  rw [List.getElem?_set]
  split
  · rename_i e; subst e; split
    · exact h.symm
    · rename_i e; rw [List.getElem?_eq_none (by omega)] at h; cases h
  · rfl
theorem bnd_rng {l : List Bnd} {i : Nat} {d : Bnd} (hd : l[i]? = some d) (mn mx : Int) : ((l.flatMap Bnd.enc).set (i * 5 + 3) (.int .i64 mn)).set (i * 5 + 4) (.int .i64 mx) = (l.set i (rngOf d mn mx)).flatMap Bnd.enc := by
  rw [← flat_set Bnd.enc_len l i (rngOf d mn mx) (List.getElem?_eq_some_iff.1 hd).1]
  show _ = ((((((l.flatMap Bnd.enc).set (i * 5) (.string d.name)).set (i * 5 + 1) (.string d.src)).set (i * 5 + 1 + 1) (.string d.dst)).set (i * 5 + 1 + 1 + 1) (.int .i64 mn)).set (i * 5 + 1 + 1 + 1 + 1) (.int .i64 mx))
  rw [set_same (k := i * 5) (v := .string d.name) (flat_get (j := 0) Bnd.enc_len hd rfl), set_same (k := i * 5 + 1) (v := .string d.src) (flat_get (j := 1) Bnd.enc_len hd rfl), set_same (k := i * 5 + 1 + 1) (v := .string d.dst) (flat_get (j := 2) Bnd.enc_len hd rfl)]
def bondsE (s : Scm) (c : Chg) : Int := if bFind s.bonds c.name < 0 then 5 else 0
def bondsS (s : Scm) (c : Chg) : Scm := match s.bonds[(bFind s.bonds c.name).toNat]? with
  | some b => ⟨s.kinds, if c.what = 6 then s.bonds.take (bFind s.bonds c.name).toNat ++ s.bonds.drop ((bFind s.bonds c.name).toNat + 1) else s.bonds.set (bFind s.bonds c.name).toNat (rngOf b c.bond.mn c.bond.mx)⟩
  | none => s
theorem bFind_cases (l : List Bnd) (nm : ByteArray) : bFind l nm < 0 ∨ ∃ (i : Nat) (d : Bnd), bFind l nm = i ∧ l[i]? = some d := by
  rcases Int.lt_or_le (bFind l nm) 0 with h | h
  · exact .inl h
  · obtain ⟨k, d, h1, h2, _⟩ := idxI_nonneg h
    exact .inr ⟨k, d, h1, h2⟩
set_option maxRecDepth 100000 in
set_option maxHeartbeats 8000000 in
theorem cbonds_any (s : Scm) (c : Chg) (bs : Nat) (vk vb vo vf : Value) (xs : List Value) (B : Nat) (w : World) (hB : B ≤ w.heap.size) (hS : SW w B bs vk vb s xs) (hc : ChgR w vo vf c) (hbl : s.bonds.length ≤ 1000) :
    Calls Tryd.prog 80 #[.pointer (some ⟨bs, 0, none⟩), .agg (chgCells c vo vf)] w (RetSW B bs (bondsS s c) (bondsE s c) w) := by
  obtain ⟨Ak, ck, rfl, _, _⟩ := hS.o.n.form
  obtain ⟨Ab, cb, rfl, _, _⟩ := hS.o.b.form
  obtain ⟨Ao, co, rfl, _, _⟩ := hc.ko.form
  obtain ⟨Af, cf, rfl, _, _⟩ := hc.kf.form
  obtain ⟨what, name, kind, bond, fld, val, tow⟩ := c
  have HC := Lib.hid hc.b
  clear hc
  show Calls Tryd.prog 80 #[.pointer (some ⟨bs, 0, none⟩), .agg #[.int .i64 what, .string name, .string kind.name, .slice Ao kind.ofs.length co, .slice Af kind.fields.length cf, .string bond.name, .string bond.src, .string bond.dst, .int .i64 bond.mn, .int .i64 bond.mx, .string fld.name, .int .i64 fld.ty, .bool fld.must, .bool fld.key, .int .i64 val.ty, .int .i64 val.n, .string val.s, .string tow]] w _
  obtain ⟨W0, hW0⟩ : ∃ W0, W0 = w.alloc (.cells #[.int .i64 what, .string name, .string kind.name, .slice Ao kind.ofs.length co, .slice Af kind.fields.length cf, .string bond.name, .string bond.src, .string bond.dst, .int .i64 bond.mn, .int .i64 bond.mx, .string fld.name, .int .i64 fld.ty, .bool fld.must, .bool fld.key, .int .i64 val.ty, .int .i64 val.n, .string val.s, .string tow] 42) := ⟨_, rfl⟩
  have hb0 : Below w.heap.size w W0 := by rw [hW0]; exact (Below.refl _ _).alloc (Nat.le_refl _) _
  have g0 : W0.heap[w.heap.size]? = some (.cells #[.int .i64 what, .string name, .string kind.name, .slice Ao kind.ofs.length co, .slice Af kind.fields.length cf, .string bond.name, .string bond.src, .string bond.dst, .int .i64 bond.mn, .int .i64 bond.mx, .string fld.name, .int .i64 fld.ty, .bool fld.must, .bool fld.key, .int .i64 val.ty, .int .i64 val.n, .string val.s, .string tow] 42 (0, 0)) := by rw [hW0]; exact heap_alloc_new _ _
  have hq0 : W0.heap[bs]? = some (.cells #[.slice Ak s.kinds.length ck, .slice Ab s.bonds.length cb] 25 (0, 0)) := (hb0.block _ (Array.getElem?_eq_some_iff.1 hS.q).1).trans hS.q
  have hW0' := hW0.symm
  have x0 := block_cell hq0 0
  have x1 := block_cell hq0 1
  have y0 := block_cell g0 0
  have y1 := block_cell g0 1
  have HS0 := Lib.hid (hS.o.below hb0)
  have HBS := Lib.hid hS.l
  have HFE : Hid (bondsE s ⟨what, name, kind, bond, fld, val, tow⟩ = if bFind s.bonds name < 0 then 5 else 0) := rfl
  have HFS : Hid (bondsS s ⟨what, name, kind, bond, fld, val, tow⟩ = match s.bonds[(bFind s.bonds name).toNat]? with
    | some b => ⟨s.kinds, if what = 6 then s.bonds.take (bFind s.bonds name).toNat ++ s.bonds.drop ((bFind s.bonds name).toNat + 1) else s.bonds.set (bFind s.bonds name).toNat (rngOf b bond.mn bond.mx)⟩
    | none => s) := rfl
  have hkc := bFind_cases s.bonds name
  have hw0 := hb0.size
  have hbsl : bs < w.heap.size := (Array.getElem?_eq_some_iff.1 hS.q).1
  have HQ0 := Lib.hid hq0
  have HG0 := Lib.hid g0
  clear hS hW0 hq0 g0
  go_enter Tryd.func80, Tryd.ntmps80
  go_wp2_with fail
  refine wp_mid_k 5 _ rfl rfl (by kernel_rfl) (by kernel_rfl) ?_
  simp only [List.take_succ_cons, List.take_zero, List.drop_succ_cons, List.drop_zero]
  repeat (go_big_quiet_step (fail))
  refine wpQuiet_nil ?_
  intro _ hw'
  obtain ⟨nq, hw''⟩ := hw'
  subst hw''
  intro K hK
  have hkf := sFind_any s name (.slice Ak s.kinds.length ck) (.slice Ab s.bonds.length cb) (W0.drewN nq) (HS0.out.below (below_drewN (Below.refl _ _) nq)).r
  generalize bFind s.bonds name = z at *
  go_wp2_with fail
  refine hkf.mono ?_
  clear hkf
  rintro e w1 ⟨rfl, hb1⟩
  have hb01 := (below_drewN (Below.refl W0.heap.size W0) nq).trans hb1
  refine hK _ _ ?_
  repeat (go_big_quiet_step (fail))
  refine wpQuiet_nil ?_
  intro _ hw'
  obtain ⟨nq2, hw''⟩ := hw'
  subst hw''
  clear hK
  have hbW := below_drewN hb01 nq2
  generalize w1.drewN nq2 = W1 at *
  have x0 := cell_below hbW x0
  have x1 := cell_below hbW x1
  have hg1 := (hbW.block _ (Array.getElem?_eq_some_iff.1 HG0.out).1).trans HG0.out
  have HQ1 := Lib.hid ((hbW.block _ (Array.getElem?_eq_some_iff.1 HQ0.out).1).trans HQ0.out)
  have HS1 := Lib.hid (HS0.out.below hbW)
  have hbw := hb0.trans (hbW.mono hw0)
  have HB1 := Lib.hid (hbw.mono hB)
  have HM1 : Hid (Same 25 w W1) := Same.below hbw
  have hs1 := hbw.size
  have HG1 := Lib.hid hg1
  have u0 := block_cell hg1 0
  have u8 := block_cell hg1 8
  have u9 := block_cell hg1 9
  clear hb1 hb01 hbW hbw hb0 y0 y1 hg1 HQ0 HG0
  rcases hkc with hz | ⟨i, d, rfl, hd⟩
  · have HF : Hid (bondsE s ⟨what, name, kind, bond, fld, val, tow⟩ = 5) := by
      unfold Hid; rw [HFE.out, if_pos hz]
    clear HFE HFS
    go_wp2_with fail
    go_ret
    exact ⟨by rw [HF.out]; rfl, (fun h => by rw [HF.out] at h; omega), HB1.out, (fun k cc fr _ hk => HM1.out _ _ _ hk), hs1⟩
  have hil := (List.getElem?_eq_some_iff.1 hd).1
  have HF : Hid (bondsE s ⟨what, name, kind, bond, fld, val, tow⟩ = 0) := by
    unfold Hid; rw [HFE.out, if_neg (by omega)]
  have HS2 : Hid (bondsS s ⟨what, name, kind, bond, fld, val, tow⟩ = ⟨s.kinds, if what = 6 then s.bonds.take i ++ s.bonds.drop (i + 1) else s.bonds.set i (rngOf d bond.mn bond.mx)⟩) := by
    unfold Hid; rw [HFS.out, Int.toNat_natCast, hd]
  have hi0 : (0 : Int) ≤ (i : Int) := by omega
  have hob := HS1.out.b
  have HK := Lib.hid HS1.out.k
  by_cases h6 : what = 6
  · subst h6
    have HS3 : Hid (bondsS s ⟨6, name, kind, bond, fld, val, tow⟩ = ⟨s.kinds, s.bonds.take i ++ s.bonds.drop (i + 1)⟩) := by unfold Hid; rw [HS2.out, if_pos rfl]
    obtain ⟨m, hm⟩ : ∃ m, s.bonds.length = m + 1 := ⟨s.bonds.length - 1, by omega⟩
    rw [hm] at hob
    have hdel := del1_bnds W1 B (.slice Ab (m + 1) cb) m (s.bonds.flatMap Bnd.enc) hob i (by omega) (oneCell_flat Bnd.enc_one s.bonds) (by omega)
    rw [flat_take Bnd.enc_len s.bonds i (by omega), flat_drop Bnd.enc_len s.bonds (i + 1) (by omega), ← List.flatMap_append] at hdel
    have HDL : Hid (m = (s.bonds.take i ++ s.bonds.drop (i + 1)).length) := by unfold Hid; simp; omega
    have HDO : Hid (∀ y ∈ s.bonds.take i ++ s.bonds.drop (i + 1), y.ok) := fun y hy => by
      rcases List.mem_append.1 hy with h | h
      · exact HK.out y (List.mem_of_mem_take h)
      · exact HK.out y (List.mem_of_mem_drop h)
    have HOB := Lib.hid hob
    have hi9 : (i : Int) ≤ 1000 := by omega
    have him : i ≤ m := by omega
    have HQ4 := HQ1.out
    rw [hm] at x1 HQ4
    have HQ5 := Lib.hid HQ4
    have HO1 := HS1.out
    clear HFE HFS HS2 hd hil hm hob HQ4 HQ1
    generalize hbb : s.bonds.take i ++ s.bonds.drop (i + 1) = bb at *
    go_wp2_with fail
    refine hdel.mono ?_
    clear hdel
    rintro e w5 ⟨u5, rfl, ho5, hg5, hu5⟩
    have hSk : ∀ T, 36 ≠ T → Same T W1 w5 := fun T hT => Same.grown HOB.out hT hg5
    have hq5 := hSk 25 (by decide) _ _ _ HQ5.out
    have f0 := block_free hq5 1
    have c0 := block_cell hq5 1
    obtain ⟨A5, c5, rfl, _, _⟩ := ho5.form
    have hset : ∀ T, 25 ≠ T → Same T w5 (w5.setCell ⟨bs, 1, none⟩ (.slice A5 m c5)) := fun T hT => Same.setCell (p := ⟨bs, 1, none⟩) hq5 hT _
    have HQ6 := Lib.hid (setCell_block hq5 1 (.slice A5 m c5))
    have hO := HO1.setB HDL.out (ho5.same (hset _ (by decide))) HDO.out ((hSk _ (by decide)).trans (hset _ (by decide))) ((hSk _ (by decide)).trans (hset _ (by decide))) ((hSk _ (by decide)).trans (hset _ (by decide)))
    rw [← HS3.out] at hO
    have HO := Lib.hid hO
    have hB5 : Below B w w5 := HB1.out.grown hg5 (by omega) (fun k e => (HOB.out.lt k e).1)
    have hs5 := hg5.size
    have HK5 := Lib.hid hSk
    clear hSk hset hO ho5 hg5 hu5 hq5
    go_wp2_with fail
    go_ret
    exact ⟨by rw [HF.out]; rfl, (fun _ => ⟨_, _, _, HQ6.out, HO.out, HBS.out⟩), hB5.setCell (p := ⟨bs, 1, none⟩) HBS.out _,
      (fun k cc fr hne hk => by rw [Below.heap_setCell _ _ _ _ hne]; exact HK5.out 25 (by decide) _ _ _ (HM1.out _ _ _ hk)), by simp [World.setCell]; omega⟩
  · have HX : Hid (((s.bonds.flatMap Bnd.enc).set (i * 5 + 3) (.int .i64 bond.mn)).set (i * 5 + 4) (.int .i64 bond.mx) = (s.bonds.set i (rngOf d bond.mn bond.mx)).flatMap Bnd.enc) := bnd_rng hd _ _
    have HDK : Hid ((rngOf d bond.mn bond.mx).ok) := by
      have h := HK.out d (List.mem_of_getElem? hd)
      exact ⟨h.1, h.2.1, h.2.2.1, HC.out.2.2.2.1, HC.out.2.2.2.2⟩
    have b6 : (what == 6) = false := beq_eq_false_iff_ne.2 h6
    have HS3 : Hid (bondsS s ⟨what, name, kind, bond, fld, val, tow⟩ = ⟨s.kinds, s.bonds.set i (rngOf d bond.mn bond.mx)⟩) := by unfold Hid; rw [HS2.out, if_neg h6]
    obtain ⟨gb, o, c2, hv, hgb1, hgb2⟩ := hob.addr (by omega)
    injection hv with hv1 hv2 hv3
    subst hv1; subst hv3
    have z3 : W1.cell? ⟨gb, o + i * 5 + 3, none⟩ = some (.int .i64 d.mn) := hob.cell (j := i * 5 + 3) rfl (flat_get Bnd.enc_len hd rfl)
    have z4 : W1.cell? ⟨gb, o + i * 5 + 4, none⟩ = some (.int .i64 d.mx) := hob.cell (j := i * 5 + 4) rfl (flat_get Bnd.enc_len hd rfl)
    have f3 := hob.frozen rfl (o + i * 5 + 3)
    have f4 := hob.frozen rfl (o + i * 5 + 4)
    have hil' : (i : Int) < (s.bonds.length : Int) := by omega
    have hi9 : (i : Int) ≤ 1000 := by omega
    have hne1 : gb ≠ bs := fun e => hob.ne_block HQ1.out (by decide) (by rw [← e]; rfl)
    have hne2 : gb ≠ w.heap.size := fun e => hob.ne_block (HG1.out) (by decide) (by rw [← e]; rfl)
    clear HFE HFS HS2 hd
    go_wp2_with fail
    have hkeep := And.intro x1 (And.intro u8 u9)
    go_region_held3 (fun w' => w'.cell? ⟨bs, 1, none⟩ = some (.slice (some ⟨gb, o, none⟩) s.bonds.length cb) ∧ w'.cell? ⟨w.heap.size, 8, none⟩ = some (.int .i64 bond.mn) ∧ w'.cell? ⟨w.heap.size, 9, none⟩ = some (.int .i64 bond.mx))
      (first
        | exact hkeep
        | go_keep)
      (fail)
    have o1 := hob.store (i * 5 + 3) (by omega) (.int .i64 bond.mn)
    rw [← Nat.add_assoc] at o1
    have o2 := o1.store (i * 5 + 4) (by omega) (.int .i64 bond.mx)
    rw [HX.out, ← Nat.add_assoc] at o2
    have hS2 : ∀ T, 36 ≠ T → Same T W1 ((W1.setCell ⟨gb, o + i * 5 + 3, none⟩ (.int .i64 bond.mn)).setCell ⟨gb, o + i * 5 + 4, none⟩ (.int .i64 bond.mx)).drew := fun T hT => ((Same.cellOf hob hT _ _).trans (Same.cellOf o1 hT _ _)).trans (Same.drew _)
    have HO := Lib.hid (HS1.out.setB (List.length_set ..).symm (o2.below (Below.refl _ _).drew) (fun y hy => by
      rcases List.mem_or_eq_of_mem_set hy with h | rfl
      · exact HK.out y h
      · exact HDK.out) (hS2 _ (by decide)) (hS2 _ (by decide)) (hS2 _ (by decide)))
    have HQ6 := Lib.hid (hS2 25 (by decide) _ _ _ HQ1.out)
    have HK5 := Lib.hid hS2
    have hB5 : Below B w ((W1.setCell ⟨gb, o + i * 5 + 3, none⟩ (.int .i64 bond.mn)).setCell ⟨gb, o + i * 5 + 4, none⟩ (.int .i64 bond.mx)).drew := ((HB1.out.setCell (p := ⟨gb, _, none⟩) hgb1 _).setCell (p := ⟨gb, _, none⟩) hgb1 _).drew
    clear hkeep o1 o2 hob z3 z4 f3 f4 x0 x1 u0 u8 u9 hS2
    go_wp2_with fail
    go_ret
    exact ⟨by rw [HF.out]; rfl, (fun _ => ⟨_, _, _, HQ6.out, by rw [HS3.out]; exact HO.out, HBS.out⟩), hB5,
      (fun k cc fr hne hk => HK5.out 25 (by decide) _ _ _ (HM1.out _ _ _ hk)), by simp [World.setCell]; omega⟩
end Go.Proofs.YtldmofffogjlkaaDoor

/- Plain: a region that draws its order, whose loads may be taken first: what the loads read must stand behind each operation but the very last one (on which all others bear). No condition. -/
namespace Go.Proofs.YtldmofffogjlkaaDoor
open Go Go.RowKit
section
variable {P : Program} {ops : Array Oper} {Q : Exit → Act → World → Prop} {md : Region.Mode} {S : World → Prop} {n : Nat}

/-- Whatever order: S holds behind each operation but n. -/
def wpAnyX (P : Program) (md : Region.Mode) (ops : Array Oper) (Q : Exit → Act → World → Prop) (S : World → Prop) (n : Nat) : Nat → Array Bool → Act → World → Prop
  | 0, l, a, w => Region.ready md ops l = [] ∧ Q .normal a w
  | f + 1, l, a, w => (Region.ready md ops l = [] → Q .normal a w) ∧
    ∀ i ∈ Region.ready md ops l, wpOp P ops Q i (fun a' w' => (i ≠ n → S w') ∧ wpAnyX P md ops Q S n f (l.setIfInBounds i true) a' w') a w
theorem wpAny_of_x : ∀ (f : Nat) (l : Array Bool) (a : Act) (w : World), wpAnyX P md ops Q S n f l a w → wpAny P md ops Q f l a w
  | 0, _, _, _, h => h
  | f + 1, _, _, _, h => ⟨h.1, fun i hi => wpOp_mono (fun a' w' h' => wpAny_of_x f _ a' w' h'.2) (h.2 i hi)⟩
theorem wp_region_x {id : Nat} {a : Act} {w : World} (n f : Nat) (l : Array Bool) (S : World → Prop) (hm : P.follows .mixedOrders = true) (hf : ops.size = f) (hl : Array.replicate f false = l) (hS : S w.drew) (h : S w.drew → wpAnyX P .any ops Q S n f l a w.drew) : (Code.region id ops true).wp P Q a w := by
  subst hf; subst hl
  exact wp_region_any hm (wpAny_of_x _ _ _ _ (h hS))
theorem wpAnyX_first {i : Nat} {oi : Oper} {v : Value} (hi : ops[i]? = some oi) (hsel : ∀ (j : Nat) (o : Oper) cs b, ops[j]? = some o → o.op ≠ .select cs b) (hQ : ∀ c a w, Q (.panic c) (a.put oi.dst v) w → Q (.panic c) a w)
    (hs : Region.sinkB md ops n = true) (hc : tailB md ops n = true) (hn : n < ops.size) (hin : i < n) :
    ∀ (f : Nat) (l : Array Bool) (a : Act) (w : World), HeadInv md ops n l →
      (∀ j oj, ops[j]? = some oj → j ≠ i → l.getD j true = false → (∀ e ∈ oj.after, Region.binds md e = true → e.on ≠ i) → oi.apart ops oj = true) →
      i ∈ Region.ready md ops l → YieldsIf P ops S oi v a → S w → wpAnyX P md ops Q S n f (l.setIfInBounds i true) (a.put oi.dst v) w → wpAnyX P md ops Q S n (f + 1) l a w := by
  intro f
  induction f with
  | zero =>
    intro l a w _ _ hr hy hS H
    refine ⟨fun h => (by rw [h] at hr; cases hr), fun j hj => ?_⟩
    by_cases hji : j = i
    · subst hji; exact hy.wpOp hi hS ⟨fun _ => hS, H⟩
    · have := ready_mono hj hji
      rw [H.1] at this
      cases this
  | succ f ih =>
    intro l a w inv hfree hr hy hS H
    have hun := (mem_ready.1 hr).1
    refine ⟨fun h => (by rw [h] at hr; cases hr), fun j hj => ?_⟩
    have hjn : j < n := by
      rcases Nat.lt_or_ge j n with h | h
      · exact h
      · exact absurd hj (tail_waits2 hs hc hn inv _ i rfl hin hun j h)
    by_cases hji : j = i
    · subst hji; exact hy.wpOp hi hS ⟨fun _ => hS, H⟩
    · have h1 := H.2 j (ready_mono hj hji)
      obtain ⟨hjun, oj, hoj, hall⟩ := mem_ready.1 hj
      have hnot : ∀ e ∈ oj.after, Region.binds md e = true → e.on ≠ i := fun e he hb heq => by
        have h1 := hall e he hb
        rw [heq, getD_both hun] at h1
        cases h1
      have h2 := wpOp_putIf hoj (hfree j oj hoj hji hjun hnot) (fun cs b => hsel i oi cs b hi) (fun cs b => hsel j oj cs b hoj) hQ hy h1
      have hfree' : ∀ k ok, ops[k]? = some ok → k ≠ i → (l.setIfInBounds j true).getD k true = false → (∀ e ∈ ok.after, Region.binds md e = true → e.on ≠ i) → oi.apart ops ok = true := fun k ok hk hki hun hno => by
        refine hfree k ok hk hki ?_ hno
        by_cases hjk : j = k
        · subst hjk; exact hjun
        · rw [getD_set_ne true hjk] at hun; exact hun
      refine wpOp_mono (fun a' w' h3 => ⟨h3.2.1, ih (l.setIfInBounds j true) a' w' (inv.set hj hjn) hfree' (ready_mono hr (Ne.symm hji)) h3.1 (h3.2.1 (by omega)) ?_⟩) h2
      rw [Array.setIfInBounds_comm _ _ hji]
      exact h3.2.2
/-- What is listed is closed, and nothing from n on is. -/
def headB (md : Region.Mode) (ops : Array Oper) (n : Nat) (l : Array Bool) : Bool :=
  decide (l.size = ops.size) && ((List.range ops.size).all fun j => !(l.getD j false) || match ops[j]? with | some o => o.after.all fun e => !(Region.binds md e) || l.getD e.on false | none => true) &&
  ((List.range ops.size).all fun t => decide (t < n) || !(l.getD t true))
theorem headB_inv {l : Array Bool} (h : headB md ops n l = true) : HeadInv md ops n l := by
  simp only [headB, Bool.and_eq_true, decide_eq_true_eq] at h
  obtain ⟨⟨h1, h2⟩, h3⟩ := h
  refine ⟨h1, fun j oj hj hl e he hb => ?_, fun t ht htl => ?_⟩
  · have := List.all_eq_true.1 h2 j (List.mem_range.2 (Array.getElem?_eq_some_iff.1 hj).1)
    rw [hl, hj] at this
    simp only [Bool.not_true, Bool.false_or] at this
    obtain ⟨k, hk, rfl⟩ := Array.mem_iff_getElem.1 he
    have h5 := (Array.all_eq_true.1 this) k hk
    rw [hb] at h5
    simpa using h5
  · have := List.all_eq_true.1 h3 t (List.mem_range.2 htl)
    simp only [Bool.or_eq_true, decide_eq_true_eq, Bool.not_eq_true'] at this
    rcases this with h | h
    · omega
    · exact h
def takeXB (md : Region.Mode) (ops : Array Oper) (n i : Nat) (l : Array Bool) : Bool :=
  Region.noSelect ops && decide (n < ops.size) && Region.sinkB md ops n && tailB md ops n && headB md ops n l && decide (i < n) && Region.free md ops l i && (Region.ready md ops l).contains i
theorem wpAnyX_take {i : Nat} {oi : Oper} {v : Value} {f : Nat} {l : Array Bool} {a : Act} {w : World} (hi : ops[i]? = some oi) (hB : takeXB md ops n i l = true)
    (hQ : ∀ c a w, Q (.panic c) (a.put oi.dst v) w → Q (.panic c) a w) (hy : YieldsIf P ops S oi v a) (hS : S w) (h : wpAnyX P md ops Q S n f (l.setIfInBounds i true) (a.put oi.dst v) w) : wpAnyX P md ops Q S n (f + 1) l a w := by
  simp only [takeXB, Bool.and_eq_true, decide_eq_true_eq] at hB
  obtain ⟨⟨⟨⟨⟨⟨⟨h1, h2⟩, h3⟩, h4⟩, h5⟩, h6⟩, h7⟩, h8⟩ := hB
  exact wpAnyX_first hi (Region.noSelect_spec h1) hQ h3 h4 h2 h6 f l a w (headB_inv h5) (Region.free_spec hi h7) (by simpa using h8) hy hS h
/-- One alone may come up. -/
theorem wpAnyX_op {i : Nat} {o : Oper} {f : Nat} {l : Array Bool} {a : Act} {w : World} (hi : ops[i]? = some o) (hr : Region.ready md ops l = [i]) (hg : o.guard = none)
    (h : ∀ K : Act → World → Prop, (∀ a2 w2, (i ≠ n → S w2) → ((i ≠ n → S w2) → wpAnyX P md ops Q S n f (l.setIfInBounds i true) a2 w2) → K a2 w2) → Oper.wp P o a w K Q) : wpAnyX P md ops Q S n (f + 1) l a w := by
  refine ⟨fun h0 => (by rw [hr] at h0; cases h0), fun j hj => ?_⟩
  rw [hr] at hj
  obtain rfl : j = i := by simpa using hj
  unfold wpOp
  simp only [hi]
  rw [if_pos (by simp [Region.wanted, hg])]
  exact .inl (h _ (fun a2 w2 h1 h2 => ⟨h1, h2 h1⟩))
theorem wpAnyX_done {f : Nat} {l : Array Bool} {a : Act} {w : World} (hr : Region.ready md ops l = []) (h : Q .normal a w) : wpAnyX P md ops Q S n f l a w := by
  cases f with
  | zero => exact ⟨hr, h⟩
  | succ f => exact ⟨fun _ => h, by rw [hr]; simp⟩
end
end Go.Proofs.YtldmofffogjlkaaDoor
