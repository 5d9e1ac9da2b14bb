/- Parts: SamS, Srow, ChL. -/
import Derived.Test.YtldonhgcifhpgaaMg22
import Derived.Test.YtldonhgcifhpgaaMg12
import Derived.Test.YtldonhgcifhpgaaMg07
import Derived.Deep.DeepCutAuto
import Derived.Test.YtldonhgcifhpgaaMg01
import Derived.Laws.Rows
import Derived.Laws.CopyRow
/- Contract: kinsame.Schema, at two that read the same. No condition. -/
namespace Go.Proofs.Ytldonhgcifhpgaa
open Go Go.RowKit

theorem bnd_guard (op : BinOp) (a b : Operand) (xs ys : Array Value) (w : World) : (eqGuard op 31 a b (.agg xs) (.agg ys)).run Try.prog w = .ok () w := run_eqGuard_agg w op 31 a b xs ys (by kernel_rfl)
theorem bnd_same (d : Nat) (x y : Bnd) (w : World) : (Op.equalIn (d + 2) 31 (.agg #[.string x.name, .string x.src, .string x.dst, .int .i64 x.mn, .int .i64 x.mx]) (.agg #[.string y.name, .string y.src, .string y.dst, .int .i64 y.mn, .int .i64 y.mx])).run Try.prog w = .ok (decide (x = y)) w := by
  have hS : Try.prog.underlying 31 = some (.struct (Try.prog.fieldsOf 31)) := by kernel_rfl
  have hp : Try.prog.stoodInHeld 31 = false := by kernel_rfl
  have e1 := Try.underlying9
  have e2 := Try.underlying3
  rw [run_equalIn_agg w (d + 1) 31 _ _ hS hp]
  simp only [Program.fieldsOf, Try.underlying31]
  go_simp
  simp only [bytes_eq]
  cases x; cases y
  simp only [Bnd.mk.injEq]
  rename_i a b c d e a' b' c' d' e'
  by_cases h1 : a = a' <;> by_cases h2 : b = b' <;> by_cases h3 : c = c' <;> by_cases h4 : d = d' <;> by_cases h5 : e = e' <;> simp [h1, h2, h3, h4, h5]
theorem bnd_neq (x y : Bnd) (w : World) : (binOp .neq 31 (.agg #[.string x.name, .string x.src, .string x.dst, .int .i64 x.mn, .int .i64 x.mx]) (.agg #[.string y.name, .string y.src, .string y.dst, .int .i64 y.mn, .int .i64 y.mx])).run Try.prog w = .ok (.bool (!decide (x = y))) w := by
  rw [run_neq_struct, show (10000 : Nat) = 9998 + 2 from rfl, bnd_same]; rfl
set_option maxRecDepth 100000 in
set_option maxHeartbeats 8000000 in
theorem sschema_any (s : Scm) (k1 b1 k2 b2 : Value) (w : World) (h1 : ScmR w k1 b1 s) (h2 : ScmR w k2 b2 s) :
    Calls Try.prog 10 #[.agg #[k1, b1], .agg #[k2, b2]] w fun e w' => e = .returned (.bool true) ∧ Below w.heap.size w w' := by
  obtain ⟨A1, c1, rfl, hk1, hm1⟩ := h1.1.form
  obtain ⟨A2, c2, rfl, hk2, hm2⟩ := h1.2.form
  obtain ⟨A3, c3, rfl, _, _⟩ := h2.1.form
  obtain ⟨A4, c4, rfl, _, _⟩ := h2.2.form
  unfold maxLen at hm1 hm2
  obtain ⟨W0, hW0⟩ : ∃ W0, W0 = (w.alloc (.cells #[.slice A1 s.kinds.length c1, .slice A2 s.bonds.length c2] 25)).alloc (.cells #[.slice A3 s.kinds.length c3, .slice A4 s.bonds.length c4] 25) := ⟨_, rfl⟩
  have hb0 : Below w.heap.size w W0 := by rw [hW0]; exact ((Below.refl _ _).alloc (Nat.le_refl _) _).alloc (by simp) _
  have g0 : W0.heap[w.heap.size]? = some (.cells #[.slice A1 s.kinds.length c1, .slice A2 s.bonds.length c2] 25 (0, 0)) := by
    rw [hW0, Below.heap_alloc _ _ _ (by simp)]; exact heap_alloc_new _ _
  have g1 : W0.heap[w.heap.size + 1]? = some (.cells #[.slice A3 s.kinds.length c3, .slice A4 s.bonds.length c4] 25 (0, 0)) := by
    have := heap_alloc_new (w.alloc (.cells #[.slice A1 s.kinds.length c1, .slice A2 s.bonds.length c2] 25)) (.cells #[.slice A3 s.kinds.length c3, .slice A4 s.bonds.length c4] 25); rw [hW0]; simpa using this
  have hW0' := hW0.symm
  have x0 := block_cell g0 0
  have x1 := block_cell g0 1
  have y0 := block_cell g1 0
  have y1 := block_cell g1 1
  have H1 := Lib.hid (h1.below hb0)
  have H2 := Lib.hid (h2.below hb0)
  have hw0 := hb0.size
  have HX1 := Lib.hid x1
  have HY1 := Lib.hid y1
  clear h1 h2 hW0 g0 g1
  go_enter Try.func10, Try.ntmps10
  go_wp2_with fail
  clear hW0'
  go_loopw [5] (fun i wr => ∃ k : Nat, k ≤ s.kinds.length ∧ i = .int .i64 k ∧ Below W0.heap.size W0 wr) (fun i _ => s.kinds.length - (intOf i).toNat)
  case atStart => exact ⟨0, Nat.zero_le _, rfl, Below.refl _ _⟩
  case round =>
    obtain ⟨k, hk, rfl, hbr⟩ := hrel
    have x0 := cell_below hbr x0
    have x1 := cell_below hbr x1
    have y0 := cell_below hbr y0
    have y1 := cell_below hbr y1
    have hBr := hb0.trans (hbr.mono hw0)
    by_cases hlt : k < s.kinds.length
    · obtain ⟨d, hd⟩ : ∃ d, s.kinds[k]? = some d := ⟨_, List.getElem?_eq_getElem hlt⟩
      have hlt' : (k : Int) < (s.kinds.length : Int) := by omega
      obtain ⟨p1, o1, rfl, u1, v1, hn1, ho1, hf1, z0, z1, z2⟩ := knd_at (H1.out.below hbr).1 hd
      obtain ⟨p2, o2, rfl, u2, v2, hn2, ho2, hf2, q0, q1, q2⟩ := knd_at (H2.out.below hbr).1 hd
      obtain ⟨E1, e1, rfl, _, _⟩ := ho1.form
      obtain ⟨E2, e2, rfl, _, _⟩ := hf1.form
      obtain ⟨E3, e3, rfl, _, _⟩ := ho2.form
      obtain ⟨E4, e4, rfl, _, _⟩ := hf2.form
      have ha1 : Below wr.heap.size wr (wr.alloc (.cells #[.string d.name, .slice E1 d.ofs.length e1, .slice E2 d.fields.length e2] 29)) := (Below.refl _ _).alloc (Nat.le_refl _) _
      obtain ⟨t0, t1, t2⟩ := cell_box3 wr (.string d.name) (.slice E1 d.ofs.length e1) (.slice E2 d.fields.length e2) 29
      have y0' := cell_below ha1 y0
      have q0' := cell_below ha1 q0
      have q1' := cell_below ha1 q1
      have q2' := cell_below ha1 q2
      have hsz1 : (wr.alloc (.cells #[.string d.name, .slice E1 d.ofs.length e1, .slice E2 d.fields.length e2] 29)).heap.size = wr.heap.size + 1 := by simp
      have hO1 := Lib.hid (ho1.below ha1)
      have hF1 := Lib.hid (hf1.below ha1)
      have hO2 := Lib.hid (ho2.below ha1)
      have hF2 := Lib.hid (hf2.below ha1)
      clear hd ho1 hf1 ho2 hf2 hn1 hn2
      go_upto_region 7 with fail
      generalize wr.alloc (.cells #[.string d.name, .slice E1 d.ofs.length e1, .slice E2 d.fields.length e2] 29) = Wa at *
      have ha2 : Below Wa.heap.size Wa (Wa.alloc (.cells #[.string d.name, .slice E3 d.ofs.length e3, .slice E4 d.fields.length e4] 29)) := (Below.refl _ _).alloc (Nat.le_refl _) _
      obtain ⟨s0, s1, s2⟩ := cell_box3 Wa (.string d.name) (.slice E3 d.ofs.length e3) (.slice E4 d.fields.length e4) 29
      rw [hsz1] at s0 s1 s2
      have t0 := cell_below ha2 t0
      have t1 := cell_below ha2 t1
      have t2 := cell_below ha2 t2
      have hB2 := hbr.trans ((ha1.trans (ha2.mono ha1.size)).mono hbr.size)
      have HO1 := Lib.hid (hO1.out.below ha2)
      have HF1 := Lib.hid (hF1.out.below ha2)
      have HO2 := Lib.hid (hO2.out.below ha2)
      have HF2 := Lib.hid (hF2.out.below ha2)
      clear hO1 hF1 hO2 hF2
      go_upto_region 8 with fail
      generalize Wa.alloc (.cells #[.string d.name, .slice E3 d.ofs.length e3, .slice E4 d.fields.length e4] 29) = Wb at *
      have ht := texts_any d.ofs d.ofs _ _ Wb HO1.out HO2.out
      rw [decide_eq_true rfl] at ht
      clear x0 x1 y0 y1 y0' q0' q1' q2' z0 z1 z2 q0 q1 q2
      go_wp2_with fail
      refine ht.mono ?_
      clear ht
      rintro e w2 ⟨rfl, hb2⟩
      have t0 := cell_below hb2 t0
      have t2 := cell_below hb2 t2
      have s0 := cell_below hb2 s0
      have s2 := cell_below hb2 s2
      have hB3 := hB2.trans (hb2.mono hB2.size)
      have hf := sfields_any d.fields d.fields _ _ w2 (HF1.out.below hb2) (HF2.out.below hb2)
      rw [decide_eq_true rfl] at hf
      clear hb2 t1 s1
      go_wp2_with fail
      refine hf.mono ?_
      clear hf
      rintro e w3 ⟨rfl, hb3⟩
      have t0 := cell_below hb3 t0
      have s0 := cell_below hb3 s0
      have hB4 := hB3.trans (hb3.mono hB3.size)
      have hqb : (d.name.toList == d.name.toList) = true := by simp
      clear hb3 t2 s2
      go_wp2_with fail
      go_roundw
      case rel => exact ⟨k + 1, by omega, by go_num, hB4⟩
      case measure => simp [intOf]; omega
    · obtain rfl : k = s.kinds.length := by omega
      go_wp2_with fail
      go_loopw [10] (fun i wq => ∃ k : Nat, k ≤ s.bonds.length ∧ i = .int .i64 k ∧ Below W0.heap.size W0 wq) (fun i _ => s.bonds.length - (intOf i).toNat)
      case atStart => exact ⟨0, Nat.zero_le _, rfl, hbr⟩
      case round =>
        clear x0 x1 y0 y1 hBr hbr
        obtain ⟨k, hk, rfl, hbr⟩ := hrel
        have x1 := cell_below hbr HX1.out
        have y1 := cell_below hbr HY1.out
        have hBr := hb0.trans (hbr.mono hw0)
        by_cases hlt : k < s.bonds.length
        · obtain ⟨d, hd⟩ : ∃ d, s.bonds[k]? = some d := ⟨_, List.getElem?_eq_getElem hlt⟩
          have hlt' : (k : Int) < (s.bonds.length : Int) := by omega
          obtain ⟨p1, o1, rfl, _, z0, z1, z2, z3, z4⟩ := bnd_at (H1.out.below hbr).2 hd
          obtain ⟨p2, o2, rfl, _, q0, q1, q2, q3, q4⟩ := bnd_at (H2.out.below hbr).2 hd
          have hneq := bnd_neq d d
          rw [decide_eq_true rfl] at hneq
          have hgd := bnd_guard
          clear hd
          go_wp2_with fail
          go_quiet (fail)
          go_wp2_with fail
          go_roundw
          case rel => exact ⟨k + 1, by omega, by go_num, below_drewN hbr _⟩
          case measure => simp [intOf]; omega
        · obtain rfl : k = s.bonds.length := by omega
          go_wp2_with fail
          go_ret
          exact ⟨rfl, hBr⟩
end Go.Proofs.Ytldonhgcifhpgaa

/- Plain: a whole struct is stored into a block of its own type. No condition. -/
namespace Go.Proofs.Ytldonhgcifhpgaa
open Go Go.RowKit
section
variable {P : Program}

/-- A block is another one, all else stays. -/
structure Put (w w' : World) (g : Nat) (cs : Array Value) (T : TypeId) : Prop where
  q : w'.heap[g]? = some (.cells cs T (0, 0))
  b : ∀ B, B ≤ g → Below B w w'
  o : ∀ k, k ≠ g → w'.heap[k]? = w.heap[k]?
  s : w'.heap.size = w.heap.size
theorem put_row (w : World) (g : Nat) (cs cs' : Array Value) (T : TypeId) (hg : w.heap[g]? = some (.cells cs T (0, 0))) : Put w (w.setRow g cs') g cs' T := by
  have ho : ∀ k, k ≠ g → (w.setRow g cs').heap[k]? = w.heap[k]? := fun k hk => by
    simp only [World.setRow, Array.getElem?_modify]
    rw [if_neg (fun e => hk e.symm)]
  have hs : (w.setRow g cs').heap.size = w.heap.size := by simp [World.setRow]
  exact ⟨setRow_heap w g cs cs' T (0, 0) hg, fun B hB => ⟨rfl, rfl, rfl, by rw [hs]; exact Nat.le_refl _, fun k hk => ho k (by omega)⟩, ho, hs⟩
theorem run_storeVar_row (w : World) (g : Nat) (T ty : TypeId) (cs cs' : Array Value) (hg : w.heap[g]? = some (.cells cs T (0, 0))) (hl : cs'.size = cs.size) (h1 : ∀ v ∈ cs'.toList, v.oneCell' = true) (hi : (P.info? ty).map (·.size) = some cs'.size) :
    (storeVar ty ⟨g, 0, none⟩ (.agg cs')).run P w = .ok () (w.setRow g cs') := by
  have hst := run_storeCells_at P g 0 T cs'.toList 0 cs w hg (by simp; omega) h1
  have e : (cs.toList.take (0 + 0) ++ cs'.toList ++ cs.toList.drop (0 + 0 + cs'.toList.length)).toArray = cs' := by
    rw [List.drop_of_length_le (by simp; omega)]; simp
  rw [e] at hst
  cases hq : P.info? ty with
  | none => simp [hq] at hi
  | some i =>
    have hs : i.size = cs'.size := by simpa [hq] using hi
    simp [storeVar, Sem.run_bind, sizeOf, typeInfo, hq, hs, Value.cells, hst]
theorem wpList_store_row {ops : Array Oper} {rest : List Oper} {o : Oper} {a : Act} {w : World} {Q : Exit → Act → World → Prop} (hgd : o.guard = none) (ty : TypeId) (x v : Operand) (ho : o.op = .store ty x v) (hd : o.dst = none)
    (g : Nat) (hx : a.eval x = .pointer (some ⟨g, 0, none⟩)) (T : TypeId) (cs cs' : Array Value) (hv : a.eval v = .agg cs') (hg : w.heap[g]? = some (.cells cs T (0, 0)))
    (hl : cs'.size = cs.size) (h1 : (cs'.toList.all fun v => v.oneCell') = true) (hi : (P.info? ty).map (·.size) = some cs'.size)
    (h : ∀ w', Put w w' g cs' T → wpList P ops Q rest a w') : wpList P ops Q (o :: rest) a w :=
  wpList_plain hgd fun _ hK => by
    unfold Oper.wp execOp
    simp only [ho, hx, hv, Instr.storeAt, Instr.sureAddr, Sem.run_bind, Sem.run_pure, Result.andThen_ok, run_storeVar_row w g T ty cs cs' hg hl (List.all_eq_true.1 h1) hi]
    have e : a.put o.dst undef = a := by rw [hd]; rfl
    have h2 := h _ (put_row w g cs cs' T hg)
    rw [← e] at h2
    exact hK _ _ h2
end
end Go.Proofs.Ytldonhgcifhpgaa

/- Contract: the law ChangeBack answers true. -/
namespace Go.Proofs.Ytldonhgcifhpgaa
open Go Go.RowKit

def oneA : Knd := ⟨⟨#[97]⟩, [], []⟩
def cOne : Chg := ⟨1, .empty, oneA, bz, fz, vz, .empty⟩
theorem cOne_ok : cdoE ⟨[], []⟩ cOne = 0 := by decide +kernel
theorem cOne_is : cdoS ⟨[], []⟩ cOne = ⟨[oneA], []⟩ := by unfold cdoS; rw [if_pos cOne_ok]; rfl
theorem cdoS_of {s : Scm} {c : Chg} (h : cdoE s c = 0) : cdoS s c = chgS s c := by unfold cdoS; rw [if_pos h]
theorem I64z : I64 0 := ⟨by omega, by omega⟩
theorem Sme : Sm .empty := by unfold Sm; show 0 ≤ 1048576; omega
theorem bz_ok : bz.ok := ⟨Sme, Sme, Sme, I64z, I64z⟩
theorem fz_ok : fz.ok := ⟨Sme, I64z⟩
theorem vz_ok : vz.ok := ⟨I64z, I64z, Sme⟩
theorem chgR_z {w : World} {n tw : ByteArray} {k : Int} {f : Fld} (hn : Sm n) (hf : f.ok) (ht : Sm tw) : ChgR w (.slice none 0 0) (.slice none 0 0) ⟨k, n, kz, bz, f, vz, tw⟩ :=
  ⟨hn, Sme, Sl.nil 0 (Nat.zero_le _) none, Sl.nil 0 (Nat.zero_le _) none, bz_ok, hf, vz_ok, ht⟩
set_option maxRecDepth 100000 in
set_option maxHeartbeats 16000000 in
theorem changeBack_any (s : Scm) (c : Chg) (vk vb vo vf : Value) (w : World) (hS : ScmR w vk vb s) (hC : ChgR w vo vf c) (ho : c.kind.ofs.length ≤ 1048576) (hf : c.kind.fields.length ≤ 1048576) :
    Calls Try.prog 3 #[.agg #[vk, vb], .agg (chgCells c vo vf)] w fun e w' => e = .returned (.bool true) ∧ Below w.heap.size w w' := by
  obtain ⟨Ak, ck, rfl, _, _⟩ := hS.1.form
  obtain ⟨Ab, cb, rfl, _, _⟩ := hS.2.form
  obtain ⟨Ao, co, rfl, _, _⟩ := hC.ko.form
  obtain ⟨Af, cf, rfl, _, _⟩ := hC.kf.form
  obtain ⟨cc, hcc⟩ : ∃ cc, cc = c := ⟨_, rfl⟩
  have HDO : Hid (∀ W, Below w.heap.size w W → Calls Try.prog 8 #[.agg #[.slice Ak s.kinds.length ck, .slice Ab s.bonds.length cb], .agg (chgCells c (.slice Ao c.kind.ofs.length co) (.slice Af c.kind.fields.length cf))] W (RetSS (cdoS s cc) (cdoE s cc) W)) := fun W h => by
    rw [hcc]; exact cDo_any s c _ _ _ _ W (hS.below h) (hC.below h) ho hf
  have HB1 : Hid (cdoE s cc = 0 → c.what = 1 → Back s cc ⟨2, c.kind.name, kz, bz, fz, vz, .empty⟩) := fun h hw => by rw [hcc] at h ⊢; exact back_kind h hw
  have HB5 : Hid (cdoE s cc = 0 → c.what = 5 → Back s cc ⟨6, c.bond.name, kz, bz, fz, vz, .empty⟩) := fun h hw => by rw [hcc] at h ⊢; exact back_bond h hw
  have HB3 : Hid (cdoE s cc = 0 → c.what = 3 → Back s cc ⟨4, c.name, kz, bz, c.fld, vz, .empty⟩) := fun h hw => by rw [hcc] at h ⊢; exact back_field h hw
  have HB7 : Hid (cdoE s cc = 0 → c.what = 7 → Back s cc ⟨7, c.name, kz, bz, ⟨c.to, 0, false, false⟩, vz, c.fld.name⟩) := fun h hw => by rw [hcc] at h ⊢; exact back_ren h hw
  have HNM : Hid (Sm c.name ∧ Sm c.kind.name ∧ Sm c.bond.name ∧ c.fld.ok ∧ Sm c.to ∧ Sm c.fld.name) := ⟨hC.n, hC.kn, hC.b.1, hC.f, hC.t, hC.f.1⟩
  have HS := Lib.hid hS
  clear hcc ho hf hC
  obtain ⟨what, name, kind, bond, fld, val, tow⟩ := c
  show Calls Try.prog 3 #[.agg #[.slice Ak s.kinds.length ck, .slice Ab s.bonds.length cb], .agg #[.int .i64 what, .string name, .string kind.name, .slice Ao kind.ofs.length co, .slice Af kind.fields.length cf, .string bond.name, .string bond.src, .string bond.dst, .int .i64 bond.mn, .int .i64 bond.mx, .string fld.name, .int .i64 fld.ty, .bool fld.must, .bool fld.key, .int .i64 val.ty, .int .i64 val.n, .string val.s, .string tow]] w _
  have HDO2 : Hid (∀ W, Below w.heap.size w W → Calls Try.prog 8 #[.agg #[.slice Ak s.kinds.length ck, .slice Ab s.bonds.length cb], .agg #[.int .i64 what, .string name, .string kind.name, .slice Ao kind.ofs.length co, .slice Af kind.fields.length cf, .string bond.name, .string bond.src, .string bond.dst, .int .i64 bond.mn, .int .i64 bond.mx, .string fld.name, .int .i64 fld.ty, .bool fld.must, .bool fld.key, .int .i64 val.ty, .int .i64 val.n, .string val.s, .string tow]] W (RetSS (cdoS s cc) (cdoE s cc) W)) := HDO.out
  have HNM2 : Hid (Sm name ∧ Sm kind.name ∧ Sm bond.name ∧ fld.ok ∧ Sm tow ∧ Sm fld.name) := HNM.out
  have HB1 : Hid (cdoE s cc = 0 → what = 1 → Back s cc ⟨2, kind.name, kz, bz, fz, vz, .empty⟩) := HB1.out
  have HB5 : Hid (cdoE s cc = 0 → what = 5 → Back s cc ⟨6, bond.name, kz, bz, fz, vz, .empty⟩) := HB5.out
  have HB3 : Hid (cdoE s cc = 0 → what = 3 → Back s cc ⟨4, name, kz, bz, fld, vz, .empty⟩) := HB3.out
  have HB7 : Hid (cdoE s cc = 0 → what = 7 → Back s cc ⟨7, name, kz, bz, ⟨tow, 0, false, false⟩, vz, fld.name⟩) := HB7.out
  clear HDO HNM hS
  obtain ⟨W0, hW0⟩ : ∃ W0, W0 = ((w.alloc (.cells #[.slice Ak s.kinds.length ck, .slice Ab s.bonds.length cb] 25)).alloc (.cells #[.int .i64 what, .string name, .string kind.name, .slice Ao kind.ofs.length co, .slice Af kind.fields.length cf, .string bond.name, .string bond.src, .string bond.dst, .int .i64 bond.mn, .int .i64 bond.mx, .string fld.name, .int .i64 fld.ty, .bool fld.must, .bool fld.key, .int .i64 val.ty, .int .i64 val.n, .string val.s, .string tow] 37)) := ⟨_, rfl⟩
  have hb0 : Below w.heap.size w W0 := by rw [hW0]; exact ((Below.refl _ _).alloc (Nat.le_refl _) _).alloc (by simp) _
  have g0 : W0.heap[w.heap.size]? = some (.cells #[.slice Ak s.kinds.length ck, .slice Ab s.bonds.length cb] 25 (0, 0)) := by
    rw [hW0, Below.heap_alloc _ _ _ (by simp)]; exact heap_alloc_new _ _
  have g1 : W0.heap[w.heap.size + 1]? = some (.cells #[.int .i64 what, .string name, .string kind.name, .slice Ao kind.ofs.length co, .slice Af kind.fields.length cf, .string bond.name, .string bond.src, .string bond.dst, .int .i64 bond.mn, .int .i64 bond.mx, .string fld.name, .int .i64 fld.ty, .bool fld.must, .bool fld.key, .int .i64 val.ty, .int .i64 val.n, .string val.s, .string tow] 37 (0, 0)) := by
    rw [hW0]
    have := heap_alloc_new (w.alloc (.cells #[.slice Ak s.kinds.length ck, .slice Ab s.bonds.length cb] 25)) (.cells #[.int .i64 what, .string name, .string kind.name, .slice Ao kind.ofs.length co, .slice Af kind.fields.length cf, .string bond.name, .string bond.src, .string bond.dst, .int .i64 bond.mn, .int .i64 bond.mx, .string fld.name, .int .i64 fld.ty, .bool fld.must, .bool fld.key, .int .i64 val.ty, .int .i64 val.n, .string val.s, .string tow] 37); simpa using this
  have hW0' := hW0.symm
  have hw0 := hb0.size
  have hd1 := cDo_any ⟨[], []⟩ cOne (.slice none 0 0) (.slice none 0 0) (.slice none 0 0) (.slice none 0 0) W0 ⟨Sl.nil 0 (Nat.zero_le _) none, Sl.nil 0 (Nat.zero_le _) none⟩ ⟨Sme, by show 1 ≤ 1048576; omega, Sl.nil 0 (Nat.zero_le _) none, Sl.nil 0 (Nat.zero_le _) none, bz_ok, fz_ok, vz_ok, Sme⟩ (Nat.zero_le _) (Nat.zero_le _)
  rw [cOne_ok, cOne_is] at hd1
  have G0 := Lib.hid g0
  have G1 := Lib.hid g1
  clear hW0 g0 g1
  go_enter Try.func3, Try.ntmps3
  go_wp2_with fail
  clear hW0'
  refine hd1.mono ?_
  clear hd1
  rintro e w1 ⟨un, ut, rfl, hu, hb1⟩
  obtain ⟨A1, n1, hv1, _, _⟩ := hu.1.form
  obtain ⟨A2, n2, hv2, _, _⟩ := hu.2.form
  have hv1 : un = .slice A1 1 n1 := hv1
  have hv2 : ut = .slice A2 0 n2 := hv2
  subst hv1; subst hv2
  obtain ⟨b, o, rfl, u, x, _, _, _, c0, _, _⟩ := knd_at hu.1 (k := 0) (d := oneA) rfl
  have hbx : Below w1.heap.size w1 (w1.alloc (.cells #[.slice (some ⟨b, o, none⟩) 1 n1, .slice A2 0 n2] 25)) := (Below.refl _ _).alloc (Nat.le_refl _) _
  obtain ⟨p0, p1⟩ := cell_box2 w1 (.slice (some ⟨b, o, none⟩) 1 n1) (.slice A2 0 n2) 25
  have c0 := cell_below hbx c0
  rw [Nat.zero_mul, Nat.add_zero] at c0
  replace c0 : World.cell? _ ⟨b, o, none⟩ = some (.string ⟨#[97]⟩) := c0
  have hBx := hb1.trans (hbx.mono hb1.size)
  have HB0 := Lib.hid (hb0.trans (hBx.mono hw0))
  have H0 := Lib.hid ((hBx.block _ (Array.getElem?_eq_some_iff.1 G0.out).1).trans G0.out)
  have H1 := Lib.hid ((hBx.block _ (Array.getElem?_eq_some_iff.1 G1.out).1).trans G1.out)
  have x0 := block_cell H0.out 0
  have x1 := block_cell H0.out 1
  have hd2 := HDO2.out _ HB0.out
  rw [errV_zero rfl]
  clear hu hb1 hbx hBx G0 G1
  go_upto_region 4 with fail
  go_wp2_with (with_reducible refine wpList_load_row rfl 37 _ rfl _ rfl 37 _ (0, 0) _ H1.out Try.underlying37 rfl (by kernel_rfl) ?_)
  refine hd2.mono ?_
  clear hd2
  rintro e w2 ⟨un, ut, rfl, hu, hb2⟩
  obtain ⟨Au, cu, hvu, _, _⟩ := hu.1.form
  obtain ⟨Av, cv, hvv, _, _⟩ := hu.2.form
  generalize hnu : (cdoS s cc).kinds.length = nu at *
  generalize hnv : (cdoS s cc).bonds.length = nv at *
  subst hvu; subst hvv
  have HB2 := Lib.hid (HB0.out.trans (hb2.mono HB0.out.size))
  have I0 := Lib.hid ((hb2.block _ (Array.getElem?_eq_some_iff.1 H0.out).1).trans H0.out)
  have I1 := Lib.hid ((hb2.block _ (Array.getElem?_eq_some_iff.1 H1.out).1).trans H1.out)
  clear p0 p1 c0 x0 x1 hb2 H0 H1 HB0
  by_cases hz : cdoE s cc = 0
  case neg =>
    rw [errV_some hz]
    generalize cdoE s cc = z at *
    go_wp2_with fail
    go_ret
    exact ⟨rfl, (HB2.out).alloc HB2.out.size _⟩
  have HZ := Lib.hid hz
  rw [errV_zero hz]
  have hb3 : Below w2.heap.size w2 (w2.alloc (.cells #[.slice Au nu cu, .slice Av nv cv] 25)) := (Below.refl _ _).alloc (Nat.le_refl _) _
  obtain ⟨p0, p1⟩ := cell_box2 w2 (.slice Au nu cu) (.slice Av nv cv) 25
  have hck := scheck_any (cdoS s cc) _ _ _ (hu.below hb3)
  have hsz : (scmE (cdoS s cc)).2 = 0 := by rw [cdoS_of hz]; exact (cdoE_zero hz).2.2
  unfold SCheckR at hck
  rw [hsz, errV_zero rfl] at hck
  have HU := Lib.hid (hu.below hb3)
  have HB3 := Lib.hid (HB2.out.trans (hb3.mono HB2.out.size))
  have J0 := Lib.hid ((hb3.block _ (Array.getElem?_eq_some_iff.1 I0.out).1).trans I0.out)
  have J1 := Lib.hid ((hb3.block _ (Array.getElem?_eq_some_iff.1 I1.out).1).trans I1.out)
  clear hz hsz hu hb3 I0 I1 HB2 hnu hnv
  generalize (scmE (cdoS s cc)).1 = nm at *
  go_wp2_with fail
  refine hck.mono ?_
  clear hck
  rintro e w3 ⟨rfl, hb3⟩
  have p0 := cell_below hb3 p0
  have p1 := cell_below hb3 p1
  have K0 := Lib.hid ((hb3.block _ (Array.getElem?_eq_some_iff.1 J0.out).1).trans J0.out)
  have K1 := Lib.hid ((hb3.block _ (Array.getElem?_eq_some_iff.1 J1.out).1).trans J1.out)
  have HU3 := Lib.hid (HU.out.below hb3)
  have HB4 := Lib.hid (HB3.out.trans (hb3.mono HB3.out.size))
  clear hb3 J0 J1 HU HB3
  go_upto_region 11 with fail
  have hb4 : Below w3.heap.size w3 (w3.alloc (.cells #[.int .i64 0, .string ⟨#[]⟩, .string ⟨#[]⟩, .slice none 0 0, .slice none 0 0, .string ⟨#[]⟩, .string ⟨#[]⟩, .string ⟨#[]⟩, .int .i64 0, .int .i64 0, .string ⟨#[]⟩, .int .i64 0, .bool false, .bool false, .int .i64 0, .int .i64 0, .string ⟨#[]⟩, .string ⟨#[]⟩] 37)) := (Below.refl _ _).alloc (Nat.le_refl _) _
  have z0 := heap_alloc_new w3 (.cells #[.int .i64 0, .string ⟨#[]⟩, .string ⟨#[]⟩, .slice none 0 0, .slice none 0 0, .string ⟨#[]⟩, .string ⟨#[]⟩, .string ⟨#[]⟩, .int .i64 0, .int .i64 0, .string ⟨#[]⟩, .int .i64 0, .bool false, .bool false, .int .i64 0, .int .i64 0, .string ⟨#[]⟩, .string ⟨#[]⟩] 37)
  generalize hW4 : w3.alloc (.cells #[.int .i64 0, .string ⟨#[]⟩, .string ⟨#[]⟩, .slice none 0 0, .slice none 0 0, .string ⟨#[]⟩, .string ⟨#[]⟩, .string ⟨#[]⟩, .int .i64 0, .int .i64 0, .string ⟨#[]⟩, .int .i64 0, .bool false, .bool false, .int .i64 0, .int .i64 0, .string ⟨#[]⟩, .string ⟨#[]⟩] 37) = w4 at *
  have P0 := Lib.hid p0
  have P1 := Lib.hid p1
  clear p0 p1
  have L0 := Lib.hid ((hb4.block _ (Array.getElem?_eq_some_iff.1 K0.out).1).trans K0.out)
  have L1 := Lib.hid ((hb4.block _ (Array.getElem?_eq_some_iff.1 K1.out).1).trans K1.out)
  have Z0 := Lib.hid z0
  have x0 := block_cell L0.out 0
  have x1 := block_cell L0.out 1
  have y0 := block_cell L1.out 0
  have y1 := block_cell L1.out 1
  have y2 := block_cell L1.out 2
  have y3 := block_cell L1.out 3
  have y4 := block_cell L1.out 4
  have y5 := block_cell L1.out 5
  have y6 := block_cell L1.out 6
  have y7 := block_cell L1.out 7
  have y8 := block_cell L1.out 8
  have y9 := block_cell L1.out 9
  have y10 := block_cell L1.out 10
  have y11 := block_cell L1.out 11
  have y12 := block_cell L1.out 12
  have y13 := block_cell L1.out 13
  have y14 := block_cell L1.out 14
  have y15 := block_cell L1.out 15
  have y16 := block_cell L1.out 16
  have y17 := block_cell L1.out 17
  clear hW4 z0
  by_cases h1 : what = 1
  · subst h1
    -- ⟨2, kind.name, kz, bz, fz, vz, .empty⟩: the change back; HB1.out HZ.out rfl: that it is; chgR_z HNM2.out.2.1 fz_ok Sme: what is known of its texts; #[.int .i64 2, .string kind.name, .string ⟨#[]⟩, .slice none 0 0, .slice none 0 0, .string ⟨#[]⟩, .string ⟨#[]⟩, .string ⟨#[]⟩, .int .i64 0, .int .i64 0, .string ⟨#[]⟩, .int .i64 0, .bool false, .bool false, .int .i64 0, .int .i64 0, .string ⟨#[]⟩, .string ⟨#[]⟩]: its cells
    have hbk := HB1.out HZ.out rfl
    unfold Back at hbk
    rw [← cdoS_of HZ.out] at hbk
    have HBS := Lib.hid hbk.2
    have HBE := Lib.hid hbk.1
    clear hbk
    have hd3 : Hid (∀ W5, Below w3.heap.size w3 W5 → Calls Try.prog 8 #[.agg #[.slice Au nu cu, .slice Av nv cv], .agg #[.int .i64 2, .string kind.name, .string ⟨#[]⟩, .slice none 0 0, .slice none 0 0, .string ⟨#[]⟩, .string ⟨#[]⟩, .string ⟨#[]⟩, .int .i64 0, .int .i64 0, .string ⟨#[]⟩, .int .i64 0, .bool false, .bool false, .int .i64 0, .int .i64 0, .string ⟨#[]⟩, .string ⟨#[]⟩]] W5 (RetSS (cdoS (cdoS s cc) ⟨2, kind.name, kz, bz, fz, vz, .empty⟩) (cdoE (cdoS s cc) ⟨2, kind.name, kz, bz, fz, vz, .empty⟩) W5)) :=
      fun W5 h5 => cDo_any (cdoS s cc) ⟨2, kind.name, kz, bz, fz, vz, .empty⟩ (.slice Au nu cu) (.slice Av nv cv) (.slice none 0 0) (.slice none 0 0) W5 (HU3.out.below h5) (chgR_z HNM2.out.2.1 fz_ok Sme) (Nat.zero_le _) (Nat.zero_le _)
    go_upto_region 21 with (with_reducible refine wpList_store_row rfl 37 _ _ rfl rfl _ rfl 37 _ _ (by with_unfolding_all rfl) Z0.out (by with_unfolding_all rfl) (by with_unfolding_all rfl) (by kernel_rfl) ?_; intro w5 hput)
    have hb5 := hb4.trans (hput.b _ (Nat.le_refl _))
    have hd4 := hd3.out w5 hb5
    rw [HBE.out, HBS.out] at hd4
    have p0 := cell_below hb5 P0.out
    have p1 := cell_below hb5 P1.out
    have M0 := Lib.hid ((hb5.block _ (Array.getElem?_eq_some_iff.1 K0.out).1).trans K0.out)
    have HB6 := Lib.hid (HB4.out.trans (hb5.mono HB4.out.size))
    have HPQ := Lib.hid hput.q
    clear hd3 hput hb4 hb5 x0 x1 y0 y1 y2 y3 y4 y5 y6 y7 y8 y9 y10 y11 y12 y13 y14 y15 y16 y17 HBE HBS HU3 HB4 K0 K1 L0 L1 Z0 P0 P1
    go_wp2_with (with_reducible refine wpList_load_row rfl 37 _ rfl _ rfl 37 _ (0, 0) _ HPQ.out Try.underlying37 rfl (by kernel_rfl) ?_)
    refine hd4.mono ?_
    clear hd4
    rintro e w6 ⟨un, ut, rfl, hu, hb6⟩
    obtain ⟨A7, n7, hv1, _, _⟩ := hu.1.form
    obtain ⟨A8, n8, hv2, _, _⟩ := hu.2.form
    subst hv1; subst hv2
    have hb7 : Below w6.heap.size w6 (w6.alloc (.cells #[.slice A7 s.kinds.length n7, .slice A8 s.bonds.length n8] 25)) := (Below.refl _ _).alloc (Nat.le_refl _) _
    obtain ⟨q0, q1⟩ := cell_box2 w6 (.slice A7 s.kinds.length n7) (.slice A8 s.bonds.length n8) 25
    have hb8 := hb6.trans (hb7.mono hb6.size)
    have M1 := Lib.hid ((hb8.block _ (Array.getElem?_eq_some_iff.1 M0.out).1).trans M0.out)
    have HB7 := Lib.hid (HB6.out.trans (hb8.mono HB6.out.size))
    have hsm := sschema_any s _ _ _ _ _ (hu.below hb7) (HS.out.below HB7.out)
    have x0 := block_cell M1.out 0
    have x1 := block_cell M1.out 1
    rw [errV_zero rfl]
    clear p0 p1 hb6 hb7 hb8 hu M0 HB6 HPQ
    go_wp2_with fail
    refine hsm.mono ?_
    clear hsm
    rintro e w7 ⟨rfl, hb9⟩
    go_wp2_with fail
    go_ret
    exact ⟨rfl, HB7.out.trans (hb9.mono HB7.out.size)⟩
  by_cases h5 : what = 5
  · subst h5
    clear h1
    -- ⟨6, bond.name, kz, bz, fz, vz, .empty⟩: the change back; HB5.out HZ.out rfl: that it is; chgR_z HNM2.out.2.2.1 fz_ok Sme: what is known of its texts; #[.int .i64 6, .string bond.name, .string ⟨#[]⟩, .slice none 0 0, .slice none 0 0, .string ⟨#[]⟩, .string ⟨#[]⟩, .string ⟨#[]⟩, .int .i64 0, .int .i64 0, .string ⟨#[]⟩, .int .i64 0, .bool false, .bool false, .int .i64 0, .int .i64 0, .string ⟨#[]⟩, .string ⟨#[]⟩]: its cells
    have hbk := HB5.out HZ.out rfl
    unfold Back at hbk
    rw [← cdoS_of HZ.out] at hbk
    have HBS := Lib.hid hbk.2
    have HBE := Lib.hid hbk.1
    clear hbk
    have hd3 : Hid (∀ W5, Below w3.heap.size w3 W5 → Calls Try.prog 8 #[.agg #[.slice Au nu cu, .slice Av nv cv], .agg #[.int .i64 6, .string bond.name, .string ⟨#[]⟩, .slice none 0 0, .slice none 0 0, .string ⟨#[]⟩, .string ⟨#[]⟩, .string ⟨#[]⟩, .int .i64 0, .int .i64 0, .string ⟨#[]⟩, .int .i64 0, .bool false, .bool false, .int .i64 0, .int .i64 0, .string ⟨#[]⟩, .string ⟨#[]⟩]] W5 (RetSS (cdoS (cdoS s cc) ⟨6, bond.name, kz, bz, fz, vz, .empty⟩) (cdoE (cdoS s cc) ⟨6, bond.name, kz, bz, fz, vz, .empty⟩) W5)) :=
      fun W5 h5 => cDo_any (cdoS s cc) ⟨6, bond.name, kz, bz, fz, vz, .empty⟩ (.slice Au nu cu) (.slice Av nv cv) (.slice none 0 0) (.slice none 0 0) W5 (HU3.out.below h5) (chgR_z HNM2.out.2.2.1 fz_ok Sme) (Nat.zero_le _) (Nat.zero_le _)
    go_upto_region 21 with (with_reducible refine wpList_store_row rfl 37 _ _ rfl rfl _ rfl 37 _ _ (by with_unfolding_all rfl) Z0.out (by with_unfolding_all rfl) (by with_unfolding_all rfl) (by kernel_rfl) ?_; intro w5 hput)
    have hb5 := hb4.trans (hput.b _ (Nat.le_refl _))
    have hd4 := hd3.out w5 hb5
    rw [HBE.out, HBS.out] at hd4
    have p0 := cell_below hb5 P0.out
    have p1 := cell_below hb5 P1.out
    have M0 := Lib.hid ((hb5.block _ (Array.getElem?_eq_some_iff.1 K0.out).1).trans K0.out)
    have HB6 := Lib.hid (HB4.out.trans (hb5.mono HB4.out.size))
    have HPQ := Lib.hid hput.q
    clear hd3 hput hb4 hb5 x0 x1 y0 y1 y2 y3 y4 y5 y6 y7 y8 y9 y10 y11 y12 y13 y14 y15 y16 y17 HBE HBS HU3 HB4 K0 K1 L0 L1 Z0 P0 P1
    go_wp2_with (with_reducible refine wpList_load_row rfl 37 _ rfl _ rfl 37 _ (0, 0) _ HPQ.out Try.underlying37 rfl (by kernel_rfl) ?_)
    refine hd4.mono ?_
    clear hd4
    rintro e w6 ⟨un, ut, rfl, hu, hb6⟩
    obtain ⟨A7, n7, hv1, _, _⟩ := hu.1.form
    obtain ⟨A8, n8, hv2, _, _⟩ := hu.2.form
    subst hv1; subst hv2
    have hb7 : Below w6.heap.size w6 (w6.alloc (.cells #[.slice A7 s.kinds.length n7, .slice A8 s.bonds.length n8] 25)) := (Below.refl _ _).alloc (Nat.le_refl _) _
    obtain ⟨q0, q1⟩ := cell_box2 w6 (.slice A7 s.kinds.length n7) (.slice A8 s.bonds.length n8) 25
    have hb8 := hb6.trans (hb7.mono hb6.size)
    have M1 := Lib.hid ((hb8.block _ (Array.getElem?_eq_some_iff.1 M0.out).1).trans M0.out)
    have HB7 := Lib.hid (HB6.out.trans (hb8.mono HB6.out.size))
    have hsm := sschema_any s _ _ _ _ _ (hu.below hb7) (HS.out.below HB7.out)
    have x0 := block_cell M1.out 0
    have x1 := block_cell M1.out 1
    rw [errV_zero rfl]
    clear p0 p1 hb6 hb7 hb8 hu M0 HB6 HPQ
    go_wp2_with fail
    refine hsm.mono ?_
    clear hsm
    rintro e w7 ⟨rfl, hb9⟩
    go_wp2_with fail
    go_ret
    exact ⟨rfl, HB7.out.trans (hb9.mono HB7.out.size)⟩
  by_cases h3 : what = 3
  · subst h3
    clear h1 h5
    -- ⟨4, name, kz, bz, fld, vz, .empty⟩: the change back; HB3.out HZ.out rfl: that it is; chgR_z HNM2.out.1 HNM2.out.2.2.2.1 Sme: what is known of its texts; #[.int .i64 4, .string name, .string ⟨#[]⟩, .slice none 0 0, .slice none 0 0, .string ⟨#[]⟩, .string ⟨#[]⟩, .string ⟨#[]⟩, .int .i64 0, .int .i64 0, .string fld.name, .int .i64 fld.ty, .bool fld.must, .bool fld.key, .int .i64 0, .int .i64 0, .string ⟨#[]⟩, .string ⟨#[]⟩]: its cells
    have hbk := HB3.out HZ.out rfl
    unfold Back at hbk
    rw [← cdoS_of HZ.out] at hbk
    have HBS := Lib.hid hbk.2
    have HBE := Lib.hid hbk.1
    clear hbk
    have hd3 : Hid (∀ W5, Below w3.heap.size w3 W5 → Calls Try.prog 8 #[.agg #[.slice Au nu cu, .slice Av nv cv], .agg #[.int .i64 4, .string name, .string ⟨#[]⟩, .slice none 0 0, .slice none 0 0, .string ⟨#[]⟩, .string ⟨#[]⟩, .string ⟨#[]⟩, .int .i64 0, .int .i64 0, .string fld.name, .int .i64 fld.ty, .bool fld.must, .bool fld.key, .int .i64 0, .int .i64 0, .string ⟨#[]⟩, .string ⟨#[]⟩]] W5 (RetSS (cdoS (cdoS s cc) ⟨4, name, kz, bz, fld, vz, .empty⟩) (cdoE (cdoS s cc) ⟨4, name, kz, bz, fld, vz, .empty⟩) W5)) :=
      fun W5 h5 => cDo_any (cdoS s cc) ⟨4, name, kz, bz, fld, vz, .empty⟩ (.slice Au nu cu) (.slice Av nv cv) (.slice none 0 0) (.slice none 0 0) W5 (HU3.out.below h5) (chgR_z HNM2.out.1 HNM2.out.2.2.2.1 Sme) (Nat.zero_le _) (Nat.zero_le _)
    go_upto_region 21 with (with_reducible refine wpList_store_row rfl 37 _ _ rfl rfl _ rfl 37 _ _ (by with_unfolding_all rfl) Z0.out (by with_unfolding_all rfl) (by with_unfolding_all rfl) (by kernel_rfl) ?_; intro w5 hput)
    have hb5 := hb4.trans (hput.b _ (Nat.le_refl _))
    have hd4 := hd3.out w5 hb5
    rw [HBE.out, HBS.out] at hd4
    have p0 := cell_below hb5 P0.out
    have p1 := cell_below hb5 P1.out
    have M0 := Lib.hid ((hb5.block _ (Array.getElem?_eq_some_iff.1 K0.out).1).trans K0.out)
    have HB6 := Lib.hid (HB4.out.trans (hb5.mono HB4.out.size))
    have HPQ := Lib.hid hput.q
    clear hd3 hput hb4 hb5 x0 x1 y0 y1 y2 y3 y4 y5 y6 y7 y8 y9 y10 y11 y12 y13 y14 y15 y16 y17 HBE HBS HU3 HB4 K0 K1 L0 L1 Z0 P0 P1
    go_wp2_with (with_reducible refine wpList_load_row rfl 37 _ rfl _ rfl 37 _ (0, 0) _ HPQ.out Try.underlying37 rfl (by kernel_rfl) ?_)
    refine hd4.mono ?_
    clear hd4
    rintro e w6 ⟨un, ut, rfl, hu, hb6⟩
    obtain ⟨A7, n7, hv1, _, _⟩ := hu.1.form
    obtain ⟨A8, n8, hv2, _, _⟩ := hu.2.form
    subst hv1; subst hv2
    have hb7 : Below w6.heap.size w6 (w6.alloc (.cells #[.slice A7 s.kinds.length n7, .slice A8 s.bonds.length n8] 25)) := (Below.refl _ _).alloc (Nat.le_refl _) _
    obtain ⟨q0, q1⟩ := cell_box2 w6 (.slice A7 s.kinds.length n7) (.slice A8 s.bonds.length n8) 25
    have hb8 := hb6.trans (hb7.mono hb6.size)
    have M1 := Lib.hid ((hb8.block _ (Array.getElem?_eq_some_iff.1 M0.out).1).trans M0.out)
    have HB7 := Lib.hid (HB6.out.trans (hb8.mono HB6.out.size))
    have hsm := sschema_any s _ _ _ _ _ (hu.below hb7) (HS.out.below HB7.out)
    have x0 := block_cell M1.out 0
    have x1 := block_cell M1.out 1
    rw [errV_zero rfl]
    clear p0 p1 hb6 hb7 hb8 hu M0 HB6 HPQ
    go_wp2_with fail
    refine hsm.mono ?_
    clear hsm
    rintro e w7 ⟨rfl, hb9⟩
    go_wp2_with fail
    go_ret
    exact ⟨rfl, HB7.out.trans (hb9.mono HB7.out.size)⟩
  by_cases h7 : what = 7
  · subst h7
    clear h1 h5 h3
    -- ⟨7, name, kz, bz, ⟨tow, 0, false, false⟩, vz, fld.name⟩: the change back; HB7.out HZ.out rfl: that it is; chgR_z HNM2.out.1 ⟨HNM2.out.2.2.2.2.1, I64z⟩ HNM2.out.2.2.2.2.2: what is known of its texts; #[.int .i64 7, .string name, .string ⟨#[]⟩, .slice none 0 0, .slice none 0 0, .string ⟨#[]⟩, .string ⟨#[]⟩, .string ⟨#[]⟩, .int .i64 0, .int .i64 0, .string tow, .int .i64 0, .bool false, .bool false, .int .i64 0, .int .i64 0, .string ⟨#[]⟩, .string fld.name]: its cells
    have hbk := HB7.out HZ.out rfl
    unfold Back at hbk
    rw [← cdoS_of HZ.out] at hbk
    have HBS := Lib.hid hbk.2
    have HBE := Lib.hid hbk.1
    clear hbk
    have hd3 : Hid (∀ W5, Below w3.heap.size w3 W5 → Calls Try.prog 8 #[.agg #[.slice Au nu cu, .slice Av nv cv], .agg #[.int .i64 7, .string name, .string ⟨#[]⟩, .slice none 0 0, .slice none 0 0, .string ⟨#[]⟩, .string ⟨#[]⟩, .string ⟨#[]⟩, .int .i64 0, .int .i64 0, .string tow, .int .i64 0, .bool false, .bool false, .int .i64 0, .int .i64 0, .string ⟨#[]⟩, .string fld.name]] W5 (RetSS (cdoS (cdoS s cc) ⟨7, name, kz, bz, ⟨tow, 0, false, false⟩, vz, fld.name⟩) (cdoE (cdoS s cc) ⟨7, name, kz, bz, ⟨tow, 0, false, false⟩, vz, fld.name⟩) W5)) :=
      fun W5 h5 => cDo_any (cdoS s cc) ⟨7, name, kz, bz, ⟨tow, 0, false, false⟩, vz, fld.name⟩ (.slice Au nu cu) (.slice Av nv cv) (.slice none 0 0) (.slice none 0 0) W5 (HU3.out.below h5) (chgR_z HNM2.out.1 ⟨HNM2.out.2.2.2.2.1, I64z⟩ HNM2.out.2.2.2.2.2) (Nat.zero_le _) (Nat.zero_le _)
    go_upto_region 21 with (with_reducible refine wpList_store_row rfl 37 _ _ rfl rfl _ rfl 37 _ _ (by with_unfolding_all rfl) Z0.out (by with_unfolding_all rfl) (by with_unfolding_all rfl) (by kernel_rfl) ?_; intro w5 hput)
    have hb5 := hb4.trans (hput.b _ (Nat.le_refl _))
    have hd4 := hd3.out w5 hb5
    rw [HBE.out, HBS.out] at hd4
    have p0 := cell_below hb5 P0.out
    have p1 := cell_below hb5 P1.out
    have M0 := Lib.hid ((hb5.block _ (Array.getElem?_eq_some_iff.1 K0.out).1).trans K0.out)
    have HB6 := Lib.hid (HB4.out.trans (hb5.mono HB4.out.size))
    have HPQ := Lib.hid hput.q
    clear hd3 hput hb4 hb5 x0 x1 y0 y1 y2 y3 y4 y5 y6 y7 y8 y9 y10 y11 y12 y13 y14 y15 y16 y17 HBE HBS HU3 HB4 K0 K1 L0 L1 Z0 P0 P1
    go_wp2_with (with_reducible refine wpList_load_row rfl 37 _ rfl _ rfl 37 _ (0, 0) _ HPQ.out Try.underlying37 rfl (by kernel_rfl) ?_)
    refine hd4.mono ?_
    clear hd4
    rintro e w6 ⟨un, ut, rfl, hu, hb6⟩
    obtain ⟨A7, n7, hv1, _, _⟩ := hu.1.form
    obtain ⟨A8, n8, hv2, _, _⟩ := hu.2.form
    subst hv1; subst hv2
    have hb7 : Below w6.heap.size w6 (w6.alloc (.cells #[.slice A7 s.kinds.length n7, .slice A8 s.bonds.length n8] 25)) := (Below.refl _ _).alloc (Nat.le_refl _) _
    obtain ⟨q0, q1⟩ := cell_box2 w6 (.slice A7 s.kinds.length n7) (.slice A8 s.bonds.length n8) 25
    have hb8 := hb6.trans (hb7.mono hb6.size)
    have M1 := Lib.hid ((hb8.block _ (Array.getElem?_eq_some_iff.1 M0.out).1).trans M0.out)
    have HB7 := Lib.hid (HB6.out.trans (hb8.mono HB6.out.size))
    have hsm := sschema_any s _ _ _ _ _ (hu.below hb7) (HS.out.below HB7.out)
    have x0 := block_cell M1.out 0
    have x1 := block_cell M1.out 1
    rw [errV_zero rfl]
    clear p0 p1 hb6 hb7 hb8 hu M0 HB6 HPQ
    go_wp2_with fail
    refine hsm.mono ?_
    clear hsm
    rintro e w7 ⟨rfl, hb9⟩
    go_wp2_with fail
    go_ret
    exact ⟨rfl, HB7.out.trans (hb9.mono HB7.out.size)⟩
  have b1 : (what == 1) = false := beq_eq_false_iff_ne.2 h1
  have b5 : (what == 5) = false := beq_eq_false_iff_ne.2 h5
  have b3 : (what == 3) = false := beq_eq_false_iff_ne.2 h3
  have b7 : (what == 7) = false := beq_eq_false_iff_ne.2 h7
  have HB6 := Lib.hid (HB4.out.trans (hb4.mono HB4.out.size))
  clear h1 h5 h3 h7 hb4
  go_wp2_with fail
  go_ret
  exact ⟨rfl, HB6.out⟩
end Go.Proofs.Ytldonhgcifhpgaa
