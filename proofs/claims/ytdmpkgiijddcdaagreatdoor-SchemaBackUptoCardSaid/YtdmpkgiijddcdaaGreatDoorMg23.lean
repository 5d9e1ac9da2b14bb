/- Parts: SamS. -/
import Derived.Test.YtdmpkgiijddcdaaGreatDoorMg22
import Derived.Test.YtdmpkgiijddcdaaGreatDoorMg06
import Derived.Test.YtdmpkgiijddcdaaGreatDoorMg07
import Derived.Deep.DeepCutAuto
/- Contract: kinsame.Schema, at two that read the same. No condition. -/
namespace Go.Proofs.YtdmpkgiijddcdaaGreatDoor
open Go Go.RowKit

theorem bnd_guard (op : BinOp) (a b : Operand) (xs ys : Array Value) (w : World) : (eqGuard op 37 a b (.agg xs) (.agg ys)).run Tryz.prog w = .ok () w := run_eqGuard_agg w op 37 a b xs ys (by kernel_rfl)
theorem bnd_same (d : Nat) (x y : Bnd) (w : World) : (Op.equalIn (d + 2) 37 (.agg #[.string x.name, .string x.src, .string x.dst, .int .i64 x.mn, .int .i64 x.mx]) (.agg #[.string y.name, .string y.src, .string y.dst, .int .i64 y.mn, .int .i64 y.mx])).run Tryz.prog w = .ok (decide (x = y)) w := by
  have hS : Tryz.prog.underlying 37 = some (.struct (Tryz.prog.fieldsOf 37)) := by kernel_rfl
  have hp : Tryz.prog.stoodInHeld 37 = false := by kernel_rfl
  have e1 := Tryz.underlying9
  have e2 := Tryz.underlying3
  rw [run_equalIn_agg w (d + 1) 37 _ _ hS hp]
  simp only [Program.fieldsOf, Tryz.underlying37]
  go_simp
  simp only [bytes_eq]
  cases x; cases y
  simp only [Bnd.mk.injEq]
  rename_i a b c d e a' b' c' d' e'
  by_cases h1 : a = a' <;> by_cases h2 : b = b' <;> by_cases h3 : c = c' <;> by_cases h4 : d = d' <;> by_cases h5 : e = e' <;> simp [h1, h2, h3, h4, h5]
theorem bnd_neq (x y : Bnd) (w : World) : (binOp .neq 37 (.agg #[.string x.name, .string x.src, .string x.dst, .int .i64 x.mn, .int .i64 x.mx]) (.agg #[.string y.name, .string y.src, .string y.dst, .int .i64 y.mn, .int .i64 y.mx])).run Tryz.prog w = .ok (.bool (!decide (x = y))) w := by
  rw [run_neq_struct, show (10000 : Nat) = 9998 + 2 from rfl, bnd_same]; rfl
set_option maxRecDepth 100000 in
set_option maxHeartbeats 8000000 in
theorem sschema_any (s : Scm) (k1 b1 k2 b2 : Value) (w : World) (h1 : ScmR w k1 b1 s) (h2 : ScmR w k2 b2 s) :
    Calls Tryz.prog 10 #[.agg #[k1, b1], .agg #[k2, b2]] w fun e w' => e = .returned (.bool true) ∧ Below w.heap.size w w' := by
  obtain ⟨A1, c1, rfl, hk1, hm1⟩ := h1.1.form
  obtain ⟨A2, c2, rfl, hk2, hm2⟩ := h1.2.form
  obtain ⟨A3, c3, rfl, _, _⟩ := h2.1.form
  obtain ⟨A4, c4, rfl, _, _⟩ := h2.2.form
  unfold maxLen at hm1 hm2
  obtain ⟨W0, hW0⟩ : ∃ W0, W0 = (w.alloc (.cells #[.slice A1 s.kinds.length c1, .slice A2 s.bonds.length c2] 25)).alloc (.cells #[.slice A3 s.kinds.length c3, .slice A4 s.bonds.length c4] 25) := ⟨_, rfl⟩
  have hb0 : Below w.heap.size w W0 := by rw [hW0]; exact ((Below.refl _ _).alloc (Nat.le_refl _) _).alloc (by simp) _
  have g0 : W0.heap[w.heap.size]? = some (.cells #[.slice A1 s.kinds.length c1, .slice A2 s.bonds.length c2] 25 (0, 0)) := by
    rw [hW0, Below.heap_alloc _ _ _ (by simp)]; exact heap_alloc_new _ _
  have g1 : W0.heap[w.heap.size + 1]? = some (.cells #[.slice A3 s.kinds.length c3, .slice A4 s.bonds.length c4] 25 (0, 0)) := by
    have := heap_alloc_new (w.alloc (.cells #[.slice A1 s.kinds.length c1, .slice A2 s.bonds.length c2] 25)) (.cells #[.slice A3 s.kinds.length c3, .slice A4 s.bonds.length c4] 25); rw [hW0]; simpa using this
  have hW0' := hW0.symm
  have x0 := block_cell g0 0
  have x1 := block_cell g0 1
  have y0 := block_cell g1 0
  have y1 := block_cell g1 1
  have H1 := Lib.hid (h1.below hb0)
  have H2 := Lib.hid (h2.below hb0)
  have hw0 := hb0.size
  have HX1 := Lib.hid x1
  have HY1 := Lib.hid y1
  clear h1 h2 hW0 g0 g1
  go_enter Tryz.func10, Tryz.ntmps10
  go_wp2_with fail
  clear hW0'
  go_loopw [5] (fun i wr => ∃ k : Nat, k ≤ s.kinds.length ∧ i = .int .i64 k ∧ Below W0.heap.size W0 wr) (fun i _ => s.kinds.length - (intOf i).toNat)
  case atStart => exact ⟨0, Nat.zero_le _, rfl, Below.refl _ _⟩
  case round =>
    obtain ⟨k, hk, rfl, hbr⟩ := hrel
    have x0 := cell_below hbr x0
    have x1 := cell_below hbr x1
    have y0 := cell_below hbr y0
    have y1 := cell_below hbr y1
    have hBr := hb0.trans (hbr.mono hw0)
    by_cases hlt : k < s.kinds.length
    · obtain ⟨d, hd⟩ : ∃ d, s.kinds[k]? = some d := ⟨_, List.getElem?_eq_getElem hlt⟩
      have hlt' : (k : Int) < (s.kinds.length : Int) := by omega
      obtain ⟨p1, o1, rfl, u1, v1, hn1, ho1, hf1, z0, z1, z2⟩ := knd_at (H1.out.below hbr).1 hd
      obtain ⟨p2, o2, rfl, u2, v2, hn2, ho2, hf2, q0, q1, q2⟩ := knd_at (H2.out.below hbr).1 hd
      obtain ⟨E1, e1, rfl, _, _⟩ := ho1.form
      obtain ⟨E2, e2, rfl, _, _⟩ := hf1.form
      obtain ⟨E3, e3, rfl, _, _⟩ := ho2.form
      obtain ⟨E4, e4, rfl, _, _⟩ := hf2.form
      have ha1 : Below wr.heap.size wr (wr.alloc (.cells #[.string d.name, .slice E1 d.ofs.length e1, .slice E2 d.fields.length e2] 35)) := (Below.refl _ _).alloc (Nat.le_refl _) _
      obtain ⟨t0, t1, t2⟩ := cell_box3 wr (.string d.name) (.slice E1 d.ofs.length e1) (.slice E2 d.fields.length e2) 35
      have y0' := cell_below ha1 y0
      have q0' := cell_below ha1 q0
      have q1' := cell_below ha1 q1
      have q2' := cell_below ha1 q2
      have hsz1 : (wr.alloc (.cells #[.string d.name, .slice E1 d.ofs.length e1, .slice E2 d.fields.length e2] 35)).heap.size = wr.heap.size + 1 := by simp
      have hO1 := Lib.hid (ho1.below ha1)
      have hF1 := Lib.hid (hf1.below ha1)
      have hO2 := Lib.hid (ho2.below ha1)
      have hF2 := Lib.hid (hf2.below ha1)
      clear hd ho1 hf1 ho2 hf2 hn1 hn2
      go_upto_region 7 with fail
      generalize wr.alloc (.cells #[.string d.name, .slice E1 d.ofs.length e1, .slice E2 d.fields.length e2] 35) = Wa at *
      have ha2 : Below Wa.heap.size Wa (Wa.alloc (.cells #[.string d.name, .slice E3 d.ofs.length e3, .slice E4 d.fields.length e4] 35)) := (Below.refl _ _).alloc (Nat.le_refl _) _
      obtain ⟨s0, s1, s2⟩ := cell_box3 Wa (.string d.name) (.slice E3 d.ofs.length e3) (.slice E4 d.fields.length e4) 35
      rw [hsz1] at s0 s1 s2
      have t0 := cell_below ha2 t0
      have t1 := cell_below ha2 t1
      have t2 := cell_below ha2 t2
      have hB2 := hbr.trans ((ha1.trans (ha2.mono ha1.size)).mono hbr.size)
      have HO1 := Lib.hid (hO1.out.below ha2)
      have HF1 := Lib.hid (hF1.out.below ha2)
      have HO2 := Lib.hid (hO2.out.below ha2)
      have HF2 := Lib.hid (hF2.out.below ha2)
      clear hO1 hF1 hO2 hF2
      go_upto_region 8 with fail
      generalize Wa.alloc (.cells #[.string d.name, .slice E3 d.ofs.length e3, .slice E4 d.fields.length e4] 35) = Wb at *
      have ht := texts_any d.ofs d.ofs _ _ Wb HO1.out HO2.out
      rw [decide_eq_true rfl] at ht
      clear x0 x1 y0 y1 y0' q0' q1' q2' z0 z1 z2 q0 q1 q2
      go_wp2_with fail
      refine ht.mono ?_
      clear ht
      rintro e w2 ⟨rfl, hb2⟩
      have t0 := cell_below hb2 t0
      have t2 := cell_below hb2 t2
      have s0 := cell_below hb2 s0
      have s2 := cell_below hb2 s2
      have hB3 := hB2.trans (hb2.mono hB2.size)
      have hf := sfields_any d.fields d.fields _ _ w2 (HF1.out.below hb2) (HF2.out.below hb2)
      rw [decide_eq_true rfl] at hf
      clear hb2 t1 s1
      go_wp2_with fail
      refine hf.mono ?_
      clear hf
      rintro e w3 ⟨rfl, hb3⟩
      have t0 := cell_below hb3 t0
      have s0 := cell_below hb3 s0
      have hB4 := hB3.trans (hb3.mono hB3.size)
      have hqb : (d.name.toList == d.name.toList) = true := by simp
      clear hb3 t2 s2
      go_wp2_with fail
      go_roundw
      case rel => exact ⟨k + 1, by omega, by go_num, hB4⟩
      case measure => simp [intOf]; omega
    · obtain rfl : k = s.kinds.length := by omega
      go_wp2_with fail
      go_loopw [10] (fun i wq => ∃ k : Nat, k ≤ s.bonds.length ∧ i = .int .i64 k ∧ Below W0.heap.size W0 wq) (fun i _ => s.bonds.length - (intOf i).toNat)
      case atStart => exact ⟨0, Nat.zero_le _, rfl, hbr⟩
      case round =>
        clear x0 x1 y0 y1 hBr hbr
        obtain ⟨k, hk, rfl, hbr⟩ := hrel
        have x1 := cell_below hbr HX1.out
        have y1 := cell_below hbr HY1.out
        have hBr := hb0.trans (hbr.mono hw0)
        by_cases hlt : k < s.bonds.length
        · obtain ⟨d, hd⟩ : ∃ d, s.bonds[k]? = some d := ⟨_, List.getElem?_eq_getElem hlt⟩
          have hlt' : (k : Int) < (s.bonds.length : Int) := by omega
          obtain ⟨p1, o1, rfl, _, z0, z1, z2, z3, z4⟩ := bnd_at (H1.out.below hbr).2 hd
          obtain ⟨p2, o2, rfl, _, q0, q1, q2, q3, q4⟩ := bnd_at (H2.out.below hbr).2 hd
          have hneq := bnd_neq d d
          rw [decide_eq_true rfl] at hneq
          have hgd := bnd_guard
          clear hd
          go_wp2_with fail
          go_quiet (fail)
          go_wp2_with fail
          go_roundw
          case rel => exact ⟨k + 1, by omega, by go_num, below_drewN hbr _⟩
          case measure => simp [intOf]; omega
        · obtain rfl : k = s.bonds.length := by omega
          go_wp2_with fail
          go_ret
          exact ⟨rfl, hBr⟩
end Go.Proofs.YtdmpkgiijddcdaaGreatDoor
