/- Parts: SamA, SamS, IntS, GtA, InI, GNr. -/
import Derived.Test.YtkegnmclhkpbkaaGreatMg14
import Derived.Test.YtkegnmclhkpbkaaGreatMg02
import Derived.Test.YtkegnmclhkpbkaaGreatMg03
import Derived.Test.YtkegnmclhkpbkaaGreatMg05
import Derived.Deep.DeepCutAuto
import Derived.Test.YtkegnmclhkpbkaaGreatMg15
import Derived.Test.YtkegnmclhkpbkaaGreatMg13
import Derived.Test.YtkegnmclhkpbkaaGreatMg21
import Derived.Test.YtkegnmclhkpbkaaGreatMg23
import Derived.Test.YtkegnmclhkpbkaaGreatMg11
/- Contracts: kinsame.Texts, kinsame.Fields. No condition. -/
namespace Go.Proofs.YtkegnmclhkpbkaaGreat
open Go Go.RowKit


theorem drewN_step {w wr : World} (h : ∃ m, wr = w.drewN m) (n : Nat) : ∃ m, wr.drewN n = w.drewN m := by
  obtain ⟨m, rfl⟩ := h
  exact ⟨m + n, World.drewN_drewN ..⟩
/-- Two lists, place by place. -/
theorem lists_eq {D : Type} [DecidableEq D] {a b : List D} (hl : a.length = b.length) (h : ∀ j x y, j < a.length → a[j]? = some x → b[j]? = some y → x = y) : a = b := by
  apply List.ext_getElem? 
  intro i
  by_cases hi : i < a.length
  · have h1 := List.getElem?_eq_getElem hi
    have h2 : b[i]? = some b[i] := List.getElem?_eq_getElem (by omega)
    rw [h1, h2, h i _ _ hi h1 h2]
  · rw [List.getElem?_eq_none (by omega), List.getElem?_eq_none (by omega)]
end Go.Proofs.YtkegnmclhkpbkaaGreat

/- Contract: kinsame.Schema, at two that read the same. No condition. -/
namespace Go.Proofs.YtkegnmclhkpbkaaGreat
open Go Go.RowKit

theorem bnd_guard (op : BinOp) (a b : Operand) (xs ys : Array Value) (w : World) : (eqGuard op 109 a b (.agg xs) (.agg ys)).run Tryz.prog w = .ok () w := run_eqGuard_agg w op 109 a b xs ys (by kernel_rfl)
theorem bnd_same (d : Nat) (x y : Bnd) (w : World) : (Op.equalIn (d + 2) 109 (.agg #[.string x.name, .string x.src, .string x.dst, .int .i64 x.mn, .int .i64 x.mx]) (.agg #[.string y.name, .string y.src, .string y.dst, .int .i64 y.mn, .int .i64 y.mx])).run Tryz.prog w = .ok (decide (x = y)) w := by
  have hS : Tryz.prog.underlying 109 = some (.struct (Tryz.prog.fieldsOf 109)) := by kernel_rfl
  have hp : Tryz.prog.stoodInHeld 109 = false := by kernel_rfl
  have e1 := Tryz.underlying9
  have e2 := Tryz.underlying3
  rw [run_equalIn_agg w (d + 1) 109 _ _ hS hp]
  simp only [Program.fieldsOf, Tryz.underlying109]
  go_simp
  simp only [bytes_eq]
  cases x; cases y
  simp only [Bnd.mk.injEq]
  rename_i a b c d e a' b' c' d' e'
  by_cases h1 : a = a' <;> by_cases h2 : b = b' <;> by_cases h3 : c = c' <;> by_cases h4 : d = d' <;> by_cases h5 : e = e' <;> simp [h1, h2, h3, h4, h5]
theorem bnd_neq (x y : Bnd) (w : World) : (binOp .neq 109 (.agg #[.string x.name, .string x.src, .string x.dst, .int .i64 x.mn, .int .i64 x.mx]) (.agg #[.string y.name, .string y.src, .string y.dst, .int .i64 y.mn, .int .i64 y.mx])).run Tryz.prog w = .ok (.bool (!decide (x = y))) w := by
  rw [run_neq_struct, show (10000 : Nat) = 9998 + 2 from rfl, bnd_same]; rfl
end Go.Proofs.YtkegnmclhkpbkaaGreat

/- Contract: kinsame.Ints: whether two lists of ints are the same. No condition. -/
namespace Go.Proofs.YtkegnmclhkpbkaaGreat
open Go Go.RowKit


set_option maxHeartbeats 1000000 in
theorem ints_any_q (a b : List Int) (va vb : Value) (w : World) (ha : Sl intL w va a) (hb : Sl intL w vb b) : Calls Tryz.prog 10 #[va, vb] w fun e w' => e = .returned (.bool (decide (a = b))) ∧ ∃ m, w' = w.drewN m := by
  obtain ⟨A, c, rfl, _, hcm⟩ := ha.form
  obtain ⟨B, d, rfl, _, hdm⟩ := hb.form
  unfold maxLen at hcm hdm
  by_cases hl : a.length = b.length
  case neg =>
    have HE : Hid (decide (a = b) = false) := decide_eq_false fun e => hl (by rw [e])
    have hl' : decide ((a.length : Int) = (b.length : Int)) = false := decide_eq_false (by omega)
    have hl2 : ((a.length : Int) == (b.length : Int)) = false := by rw [beq_eq_false_iff_ne]; omega
    clear ha hb hl
    go_enter Tryz.func10, Tryz.ntmps10
    go_wp2_with fail
    go_ret
    exact ⟨by rw [HE.out]; rfl, 0, rfl⟩
  have HL := Lib.hid hl
  have hlb : a.length ≤ b.length := by omega
  rw [← hl]
  clear hl
  go_enter Tryz.func10, Tryz.ntmps10
  go_wp2_with fail
  go_loopw [5] (fun i wr => ∃ k : Nat, k ≤ a.length ∧ i = .int .i64 k ∧ Below w.heap.size w wr ∧ Hid (∃ m, wr = w.drewN m) ∧ Hid (∀ j x y, j < k → a[j]? = some x → b[j]? = some y → x = y)) (fun i _ => a.length - (intOf i).toNat)
  case atStart => exact ⟨0, Nat.zero_le _, rfl, Below.refl _ _, ⟨0, rfl⟩, fun j x y hj => absurd hj (Nat.not_lt_zero _)⟩
  case round =>
    obtain ⟨k, hk, rfl, hbr, HM, HA⟩ := hrel
    by_cases hlt : k < a.length
    · obtain ⟨x, hx⟩ : ∃ d, a[k]? = some d := ⟨_, List.getElem?_eq_getElem hlt⟩
      obtain ⟨y, hy⟩ : ∃ d, b[k]? = some d := ⟨_, List.getElem?_eq_getElem (by omega)⟩
      have hlt' : (k : Int) < (a.length : Int) := by omega
      obtain ⟨b1, o1, rfl, _, x0⟩ := int_at (ha.below hbr) hx
      obtain ⟨b2, o2, rfl, _, y0⟩ := int_at (hb.below hbr) hy
      have HX := Lib.hid hx
      have HY := Lib.hid hy
      clear hx hy
      by_cases hq : x = y
      · have HS : Hid (∀ j x y, j < k + 1 → a[j]? = some x → b[j]? = some y → x = y) := fun j p q hj hp hq2 => by
          by_cases hjk : j = k
          · subst hjk
            have e1 := HX.out.symm.trans hp
            have e2 := HY.out.symm.trans hq2
            injection e1 with e1; injection e2 with e2
            rw [← e1, ← e2]; exact hq
          · exact HA.out j p q (by omega) hp hq2
        subst hq
        clear ha hb
        go_wp2_with fail
        go_quiet (fail)
        go_wp2_with fail
        go_roundw
        case rel => exact ⟨k + 1, by omega, by go_num, below_drewN hbr _, drewN_step HM.out nq, HS⟩
        case measure => simp [intOf]; omega
      · have HE : Hid (decide (a = b) = false) := decide_eq_false fun e => by
          have e1 := HX.out
          rw [e, HY.out] at e1
          injection e1 with e1
          exact hq e1.symm
        have hqb : (x != y) = true := by rw [bne_iff_ne]; exact hq
        have hqc : (x == y) = false := by rw [beq_eq_false_iff_ne]; exact hq
        clear ha hb hq
        go_wp2_with fail
        go_quiet (fail)
        go_wp2_with fail
        go_ret
        exact ⟨by rw [HE.out]; rfl, drewN_step HM.out nq⟩
    · obtain rfl : k = a.length := by omega
      have HE : Hid (decide (a = b) = true) := decide_eq_true (lists_eq HL.out HA.out)
      clear ha hb
      go_wp2_with fail
      go_ret
      exact ⟨by rw [HE.out]; rfl, HM.out⟩
theorem ints_any (a b : List Int) (va vb : Value) (w : World) (ha : Sl intL w va a) (hb : Sl intL w vb b) : Calls Tryz.prog 10 #[va, vb] w fun e w' => e = .returned (.bool (decide (a = b))) ∧ Below w.heap.size w w' :=
  (ints_any_q a b va vb w ha hb).mono fun _ _ ⟨h, m, hm⟩ => ⟨h, by rw [hm]; exact below_drewN (Below.refl _ _) m⟩
end Go.Proofs.YtkegnmclhkpbkaaGreat

/- Contracts: kinsame.Ints, Record, Node, Graph: whether two are the same. No condition. -/
namespace Go.Proofs.YtkegnmclhkpbkaaGreat
open Go Go.RowKit



theorem prp_guard (op : BinOp) (a b : Operand) (xs ys : Array Value) (w : World) : (eqGuard op 45 a b (.agg xs) (.agg ys)).run Tryz.prog w = .ok () w := run_eqGuard_agg w op 45 a b xs ys (by kernel_rfl)
theorem tie_guard (op : BinOp) (a b : Operand) (xs ys : Array Value) (w : World) : (eqGuard op 36 a b (.agg xs) (.agg ys)).run Tryz.prog w = .ok () w := run_eqGuard_agg w op 36 a b xs ys (by kernel_rfl)
theorem pval_same (d : Nat) (x y : Val) (w : World) : (Op.equalIn (d + 2) 43 (.agg #[.int .i64 x.ty, .int .i64 x.n, .string x.s]) (.agg #[.int .i64 y.ty, .int .i64 y.n, .string y.s])).run Tryz.prog w = .ok (decide (x = y)) w := by
  have hS : Tryz.prog.underlying 43 = some (.struct (Tryz.prog.fieldsOf 43)) := by kernel_rfl
  have hp : Tryz.prog.stoodInHeld 43 = false := by kernel_rfl
  have e1 := Tryz.underlying9
  have e2 := Tryz.underlying3
  rw [run_equalIn_agg w (d + 1) 43 _ _ hS hp]
  simp only [Program.fieldsOf, Tryz.underlying43]
  go_simp
  simp only [bytes_eq]
  cases x; cases y
  simp only [Val.mk.injEq]
  rename_i a b c a' b' c'
  by_cases h1 : a = a' <;> by_cases h2 : b = b' <;> by_cases h3 : c = c' <;> simp [h1, h2, h3]
set_option maxRecDepth 100000 in
theorem prp_same (d : Nat) (x y : Prp) (w : World) : (Op.equalIn (d + 3) 45 (.agg #[.string x.name, .int .i64 x.v.ty, .int .i64 x.v.n, .string x.v.s]) (.agg #[.string y.name, .int .i64 y.v.ty, .int .i64 y.v.n, .string y.v.s])).run Tryz.prog w = .ok (decide (x = y)) w := by
  have hS : Tryz.prog.underlying 45 = some (.struct (Tryz.prog.fieldsOf 45)) := by kernel_rfl
  have hp : Tryz.prog.stoodInHeld 45 = false := by kernel_rfl
  have hv := pval_same d x.v y.v w
  have e1 := Tryz.underlying9
  have e2 := Tryz.underlying3
  have e3 := Tryz.underlying43
  have HV := Lib.hid hv
  clear hv
  rw [run_equalIn_agg w (d + 2) 45 _ _ hS hp]
  simp only [Program.fieldsOf, Tryz.underlying45]
  clear hS hp
  go_simp
  clear HV
  simp only [bytes_eq]
  cases x with | mk f v => cases y with | mk f' v' =>
  cases v; cases v'
  simp only [Prp.mk.injEq, Val.mk.injEq]
  rename_i a b c a' b' c'
  by_cases h0 : f = f' <;> by_cases h1 : a = a' <;> by_cases h2 : b = b' <;> by_cases h3 : c = c' <;> simp [h0, h1, h2, h3]
theorem prp_neq (x y : Prp) (w : World) : (binOp .neq 45 (.agg #[.string x.name, .int .i64 x.v.ty, .int .i64 x.v.n, .string x.v.s]) (.agg #[.string y.name, .int .i64 y.v.ty, .int .i64 y.v.n, .string y.v.s])).run Tryz.prog w = .ok (.bool (!decide (x = y))) w := by
  rw [run_neq_struct, show (10000 : Nat) = 9997 + 3 from rfl, prp_same]; rfl
theorem tie_same (d : Nat) (x y : Tie) (w : World) : (Op.equalIn (d + 2) 36 (.agg #[.string x.bond, .int .i64 x.src, .int .i64 x.dst]) (.agg #[.string y.bond, .int .i64 y.src, .int .i64 y.dst])).run Tryz.prog w = .ok (decide (x = y)) w := by
  have hS : Tryz.prog.underlying 36 = some (.struct (Tryz.prog.fieldsOf 36)) := by kernel_rfl
  have hp : Tryz.prog.stoodInHeld 36 = false := by kernel_rfl
  have e1 := Tryz.underlying9
  have e2 := Tryz.underlying3
  rw [run_equalIn_agg w (d + 1) 36 _ _ hS hp]
  simp only [Program.fieldsOf, Tryz.underlying36]
  go_simp
  simp only [bytes_eq]
  cases x; cases y
  simp only [Tie.mk.injEq]
  rename_i a b c a' b' c'
  by_cases h1 : a = a' <;> by_cases h2 : b = b' <;> by_cases h3 : c = c' <;> simp [h1, h2, h3]
theorem tie_neq (x y : Tie) (w : World) : (binOp .neq 36 (.agg #[.string x.bond, .int .i64 x.src, .int .i64 x.dst]) (.agg #[.string y.bond, .int .i64 y.src, .int .i64 y.dst])).run Tryz.prog w = .ok (.bool (!decide (x = y))) w := by
  rw [run_neq_struct, show (10000 : Nat) = 9998 + 2 from rfl, tie_same]; rfl
set_option maxHeartbeats 1000000 in
theorem srecord_any_q (a b : List Prp) (va vb : Value) (w : World) (ha : Sl prpL w va a) (hb : Sl prpL w vb b) : Calls Tryz.prog 20 #[va, vb] w fun e w' => e = .returned (.bool (decide (a = b))) ∧ ∃ m, w' = w.drewN m := by
  obtain ⟨A, c, rfl, _, hcm⟩ := ha.form
  obtain ⟨B, d, rfl, _, hdm⟩ := hb.form
  unfold maxLen at hcm hdm
  by_cases hl : a.length = b.length
  case neg =>
    have HE : Hid (decide (a = b) = false) := decide_eq_false fun e => hl (by rw [e])
    have hl' : decide ((a.length : Int) = (b.length : Int)) = false := decide_eq_false (by omega)
    have hl2 : ((a.length : Int) == (b.length : Int)) = false := by rw [beq_eq_false_iff_ne]; omega
    clear ha hb hl
    go_enter Tryz.func20, Tryz.ntmps20
    go_wp2_with fail
    go_ret
    exact ⟨by rw [HE.out]; rfl, 0, rfl⟩
  have HL := Lib.hid hl
  have hlb : a.length ≤ b.length := by omega
  rw [← hl]
  clear hl
  go_enter Tryz.func20, Tryz.ntmps20
  go_wp2_with fail
  go_loopw [5] (fun i wr => ∃ k : Nat, k ≤ a.length ∧ i = .int .i64 k ∧ Below w.heap.size w wr ∧ Hid (∃ m, wr = w.drewN m) ∧ Hid (∀ j x y, j < k → a[j]? = some x → b[j]? = some y → x = y)) (fun i _ => a.length - (intOf i).toNat)
  case atStart => exact ⟨0, Nat.zero_le _, rfl, Below.refl _ _, ⟨0, rfl⟩, fun j x y hj => absurd hj (Nat.not_lt_zero _)⟩
  case round =>
    obtain ⟨k, hk, rfl, hbr, HM, HA⟩ := hrel
    by_cases hlt : k < a.length
    · obtain ⟨x, hx⟩ : ∃ d, a[k]? = some d := ⟨_, List.getElem?_eq_getElem hlt⟩
      obtain ⟨y, hy⟩ : ∃ d, b[k]? = some d := ⟨_, List.getElem?_eq_getElem (by omega)⟩
      have hlt' : (k : Int) < (a.length : Int) := by omega
      obtain ⟨b1, o1, rfl, _, x0, x1, x2, x3⟩ := prp_at (ha.below hbr) hx
      obtain ⟨b2, o2, rfl, _, y0, y1, y2, y3⟩ := prp_at (hb.below hbr) hy
      have hneq := prp_neq x y
      have hgd := prp_guard
      have HX := Lib.hid hx
      have HY := Lib.hid hy
      clear hx hy
      by_cases hq : x = y
      · have HS : Hid (∀ j x y, j < k + 1 → a[j]? = some x → b[j]? = some y → x = y) := fun j p q hj hp hq2 => by
          by_cases hjk : j = k
          · subst hjk
            have e1 := HX.out.symm.trans hp
            have e2 := HY.out.symm.trans hq2
            injection e1 with e1; injection e2 with e2
            rw [← e1, ← e2]; exact hq
          · exact HA.out j p q (by omega) hp hq2
        rw [decide_eq_true hq] at hneq
        clear ha hb hq
        go_wp2_with fail
        go_quiet (fail)
        go_wp2_with fail
        go_roundw
        case rel => exact ⟨k + 1, by omega, by go_num, below_drewN hbr _, drewN_step HM.out nq, HS⟩
        case measure => simp [intOf]; omega
      · have HE : Hid (decide (a = b) = false) := decide_eq_false fun e => by
          have e1 := HX.out
          rw [e, HY.out] at e1
          injection e1 with e1
          exact hq e1.symm
        rw [decide_eq_false hq] at hneq
        clear ha hb hq
        go_wp2_with fail
        go_quiet (fail)
        go_wp2_with fail
        go_ret
        exact ⟨by rw [HE.out]; rfl, drewN_step HM.out nq⟩
    · obtain rfl : k = a.length := by omega
      have HE : Hid (decide (a = b) = true) := decide_eq_true (lists_eq HL.out HA.out)
      clear ha hb
      go_wp2_with fail
      go_ret
      exact ⟨by rw [HE.out]; rfl, HM.out⟩
theorem srecord_any (a b : List Prp) (va vb : Value) (w : World) (ha : Sl prpL w va a) (hb : Sl prpL w vb b) : Calls Tryz.prog 20 #[va, vb] w fun e w' => e = .returned (.bool (decide (a = b))) ∧ Below w.heap.size w w' :=
  (srecord_any_q a b va vb w ha hb).mono fun _ _ ⟨h, m, hm⟩ => ⟨h, by rw [hm]; exact below_drewN (Below.refl _ _) m⟩
/-! ### Two nodes -/

theorem nod_eqB (a b : Nod) : decide (a = b) = (decide (a.props = b.props) && decide (a.id = b.id) && decide (a.kind = b.kind)) := by
  cases a; cases b
  simp only [Nod.mk.injEq]
  rename_i i k p i' k' p'
  by_cases h1 : i = i' <;> by_cases h2 : k = k' <;> by_cases h3 : p = p' <;> simp [h1, h2, h3]
set_option maxHeartbeats 2000000 in
theorem snode_any (a b : Nod) (u1 u2 : Value) (w : World) (f1 : Sl prpL w u1 a.props) (f2 : Sl prpL w u2 b.props) :
    Calls Tryz.prog 8 #[.agg #[.int .i64 a.id, .string a.kind, u1], .agg #[.int .i64 b.id, .string b.kind, u2]] w fun e w' => e = .returned (.bool (decide (a = b))) ∧ Below w.heap.size w w' := by
  obtain ⟨A1, c1, rfl, _, _⟩ := f1.form
  obtain ⟨A2, c2, rfl, _, _⟩ := f2.form
  obtain ⟨W0, hW0⟩ : ∃ W0, W0 = (w.alloc (.cells #[.int .i64 a.id, .string a.kind, .slice A1 a.props.length c1] 34)).alloc (.cells #[.int .i64 b.id, .string b.kind, .slice A2 b.props.length c2] 34) := ⟨_, rfl⟩
  have hb0 : Below w.heap.size w W0 := by rw [hW0]; exact ((Below.refl _ _).alloc (Nat.le_refl _) _).alloc (by simp) _
  have g0 : W0.heap[w.heap.size]? = some (.cells #[.int .i64 a.id, .string a.kind, .slice A1 a.props.length c1] 34 (0, 0)) := by
    rw [hW0, Below.heap_alloc _ _ _ (by simp)]; exact heap_alloc_new _ _
  have g1 : W0.heap[w.heap.size + 1]? = some (.cells #[.int .i64 b.id, .string b.kind, .slice A2 b.props.length c2] 34 (0, 0)) := by
    have := heap_alloc_new (w.alloc (.cells #[.int .i64 a.id, .string a.kind, .slice A1 a.props.length c1] 34)) (.cells #[.int .i64 b.id, .string b.kind, .slice A2 b.props.length c2] 34); rw [hW0]; simpa using this
  have hW0' := hW0.symm
  have hw0 := hb0.size
  have x0 := block_cell g0 0
  have x1 := block_cell g0 1
  have x2 := block_cell g0 2
  have y0 := block_cell g1 0
  have y1 := block_cell g1 1
  have y2 := block_cell g1 2
  have hr := srecord_any a.props b.props _ _ W0 (f1.below hb0) (f2.below hb0)
  have HF := Lib.hid (nod_eqB a b)
  have hkb : (a.kind.toList == b.kind.toList) = decide (a.kind = b.kind) := bytes_beq a.kind b.kind
  clear f1 f2 g0 g1 hW0
  generalize decide (a.props = b.props) = q at *
  generalize decide (a = b) = E at *
  go_enter Tryz.func8, Tryz.ntmps8
  go_wp2_with fail
  clear hW0'
  refine hr.mono ?_
  clear hr
  rintro e w1 ⟨rfl, hb1⟩
  have x0 := cell_below hb1 x0
  have x1 := cell_below hb1 x1
  have y0 := cell_below hb1 y0
  have y1 := cell_below hb1 y1
  have hBX := hb0.trans (hb1.mono hw0)
  clear x2 y2 hb1 hb0
  cases q with
  | false =>
    have HE : Hid (E = false) := by unfold Hid; rw [HF.out]; rfl
    clear HF
    go_wp2_with fail
    go_ret
    exact ⟨by rw [HE.out]; rfl, hBX⟩
  | true =>
    by_cases h1 : a.id = b.id
    case neg =>
      have HE : Hid (E = false) := by unfold Hid; rw [HF.out, decide_eq_false h1]; rfl
      have h1b : (a.id == b.id) = false := by rw [beq_eq_false_iff_ne]; exact h1
      clear HF h1
      go_wp2_with fail
      go_ret
      exact ⟨by rw [HE.out]; rfl, hBX⟩
    have h1b : (a.id == b.id) = true := by rw [beq_iff_eq]; exact h1
    by_cases h2 : a.kind = b.kind
    · have HE : Hid (E = true) := by unfold Hid; rw [HF.out, decide_eq_true h1, decide_eq_true h2]; rfl
      rw [decide_eq_true h2] at hkb
      have hkc : a.kind.toList = b.kind.toList := by rw [h2]
      clear HF h1 h2
      go_wp2_with fail
      go_ret
      exact ⟨by rw [HE.out]; rfl, hBX⟩
    · have HE : Hid (E = false) := by unfold Hid; rw [HF.out, decide_eq_true h1, decide_eq_false h2]; rfl
      rw [decide_eq_false h2] at hkb
      have hkc : ¬ a.kind.toList = b.kind.toList := by rw [bytes_eq]; exact h2
      clear HF h1 h2
      go_wp2_with fail
      go_ret
      exact ⟨by rw [HE.out]; rfl, hBX⟩
end Go.Proofs.YtkegnmclhkpbkaaGreat

/- Contract: kinref2.In. No condition. -/
namespace Go.Proofs.YtkegnmclhkpbkaaGreat
open Go Go.RowKit

set_option maxHeartbeats 400000 in
theorem in2_any (l : List Int) (x : Int) (v : Value) (w : World) (hv : Sl intL w v l) :
    Calls Tryz.prog 6 #[v, .int .i64 x] w fun e w' => e = .returned (.bool (l.any fun y => y == x)) ∧ w = w' := by
  obtain ⟨A, c, rfl, hlc, hcm⟩ := hv.form
  unfold maxLen at hcm
  go_enter Tryz.func6, Tryz.ntmps6
  go_wp2_with fail
  go_loop [5] (fun i => ∃ k : Nat, k ≤ l.length ∧ i = .int .i64 k ∧ Hid (∀ j y, j < k → l[j]? = some y → (y == x) = false)) (fun i => l.length - (intOf i).toNat)
  case atStart => exact ⟨0, Nat.zero_le _, rfl, fun j x hj => absurd hj (Nat.not_lt_zero _)⟩
  case round =>
    obtain ⟨k, hk, rfl, HA⟩ := hrel
    by_cases hlt : k < l.length
    · obtain ⟨d, hd⟩ : ∃ d, l[k]? = some d := ⟨_, List.getElem?_eq_getElem hlt⟩
      obtain ⟨b, o, rfl, _, hcell⟩ := int_at hv hd
      have HD : Hid (l[k]? = some d) := hd
      clear hd hv
      cases hq : (d == x) with
      | true =>
        have HE : Hid (l.any (fun y => y == x) = true) := List.any_eq_true.2 ⟨d, List.mem_of_getElem? HD.out, hq⟩
        go_wp2_with fail
        go_ret
        exact ⟨by rw [HE.out]; rfl, rfl⟩
      | false =>
        have HS : Hid (∀ j y, j < k + 1 → l[j]? = some y → (y == x) = false) := miss_step HA.out HD.out hq
        go_wp2_with fail
        go_round
        case rel => exact ⟨k + 1, by omega, by go_num, HS⟩
        case measure => simp [intOf]; omega
    · have hkl : k = l.length := by omega
      subst hkl
      have HE : Hid (l.any (fun y => y == x) = false) := by
        rw [← idxI_any, idxI_miss HA.out]; rfl
      clear hv
      go_wp2_with fail
      go_ret
      exact ⟨by rw [HE.out]; rfl, rfl⟩
end Go.Proofs.YtkegnmclhkpbkaaGreat

/- Contract: the law GuardNear answers true. -/
namespace Go.Proofs.YtkegnmclhkpbkaaGreat
open Go Go.RowKit

/-! ### The small graph -/
def factT : Tie := ⟨⟨#[112]⟩, 1, 2⟩
def factG : Grf := ⟨[⟨1, ⟨#[97]⟩, []⟩, ⟨2, ⟨#[97]⟩, []⟩], [factT]⟩
def gone2r : Opr := ⟨2, ⟨2, ⟨#[]⟩, []⟩, ⟨⟨#[]⟩, ⟨0, 0, ⟨#[]⟩⟩⟩, ⟨⟨#[]⟩, 0, 0⟩⟩
theorem factG_all : dallE factG [gone2r] = 0 := by decide +kernel
theorem factG_touch {i : Int} : touchS factG [gone2r] i = true ↔ i = 1 ∨ i = 2 := by
  have e : touchS factG [gone2r] i = ((decide ((2 : Int) = i) || (tieT 2 i factT || false)) || false) := rfl
  rw [e]
  have e2 : tieT 2 i factT = (decide ((1 : Int) = i) || decide ((2 : Int) = i)) := rfl
  rw [e2]
  simp only [Bool.or_false, Bool.or_eq_true, decide_eq_true_eq]
  omega
theorem factG_list {L : List Int} (h : Asc (touchS factG [gone2r]) L) : L = [1, 2] := by
  refine pw_ext (R := fun a b : Int => a < b) (fun a b c h1 h2 => by omega) (fun a h => by omega) h.1 (by decide) fun x => ?_
  constructor
  · intro hx
    have := factG_touch.1 ((h.2.2 x (h.2.1 x hx)).1 hx)
    simp; omega
  · intro hx
    simp at hx
    exact (h.2.2 x (by unfold I64; omega)).2 (factG_touch.2 (by omega))
theorem factG_at {w : World} {b1 b2 : Nat}
    (h1 : w.heap[b1]? = some (.cells #[.int .i64 1, .string ⟨#[97]⟩, .slice none 0 0, .int .i64 2, .string ⟨#[97]⟩, .slice none 0 0] 34 (0, 0)))
    (h2 : w.heap[b2]? = some (.cells #[.string ⟨#[112]⟩, .int .i64 1, .int .i64 2] 36 (0, 0))) :
    GrfR w (.slice (some ⟨b1, 0, none⟩) 2 2) (.slice (some ⟨b2, 0, none⟩) 1 1) factG := by
  have hI : ∀ z : Int, 0 ≤ z → z ≤ 9 → I64 z := fun z h1 h2 => by unfold I64; omega
  refine ⟨⟨_, 2, rfl, (by decide), (by unfold maxLen; omega), fun i d hi => ?_⟩, ⟨_, 1, rfl, (by decide), (by unfold maxLen; omega), fun i d hi => ?_⟩⟩
  · match i, hi with
    | 0, hi =>
      injection hi with e; subst e
      refine ⟨b1, 0, [.int .i64 1, .string ⟨#[97]⟩, .slice none 0 0], rfl, ⟨_, rfl, hI 1 (by omega) (by omega), (by show 1 ≤ 1048576; omega), Sl.nil 0 (by unfold maxLen; omega) none⟩, fun j u hj => ?_⟩
      rw [block_cell h1]
      match j, hj with
      | 0, hj => exact hj
      | 1, hj => exact hj
      | 2, hj => exact hj
    | 1, hi =>
      injection hi with e; subst e
      refine ⟨b1, 0, [.int .i64 2, .string ⟨#[97]⟩, .slice none 0 0], rfl, ⟨_, rfl, hI 2 (by omega) (by omega), (by show 1 ≤ 1048576; omega), Sl.nil 0 (by unfold maxLen; omega) none⟩, fun j u hj => ?_⟩
      rw [block_cell h1]
      match j, hj with
      | 0, hj => exact hj
      | 1, hj => exact hj
      | 2, hj => exact hj
  · match i, hi with
    | 0, hi =>
      injection hi with e; subst e
      refine ⟨b2, 0, [.string ⟨#[112]⟩, .int .i64 1, .int .i64 2], rfl, ⟨rfl, (by show 1 ≤ 1048576; omega), hI 1 (by omega) (by omega), hI 2 (by omega) (by omega)⟩, fun j u hj => ?_⟩
      rw [block_cell h2]
      match j, hj with
      | 0, hj => exact hj
      | 1, hj => exact hj
      | 2, hj => exact hj
theorem gone2_at {W : World} {b : Nat} (h : W.heap[b]? = some (.cells (oprCells gone2r (.slice none 0 0)) 47 (0, 0))) : Sl oprL W (.slice (some ⟨b, 0, none⟩) 1 1) [gone2r] := by
  refine ⟨_, 1, rfl, Nat.le_refl _, by unfold maxLen; omega, fun i d hi => ?_⟩
  have hI : ∀ z : Int, 0 ≤ z → z ≤ 2 → I64 z := fun z h1 h2 => by unfold I64; omega
  have hS : Sm (⟨#[]⟩ : ByteArray) := by unfold Sm; show 0 ≤ 1048576; omega
  match i, hi with
  | 0, hi =>
    injection hi with hi; subst hi
    refine ⟨b, 0, (oprCells gone2r (.slice none 0 0)).toList, rfl, ⟨_, rfl, ⟨Sl.nil 0 (Nat.zero_le _) none, hS, hI 2 (by omega) (by omega), ⟨hS, hI 0 (by omega) (by omega), hI 0 (by omega) (by omega), hS⟩, ⟨hS, hI 0 (by omega) (by omega), hI 0 (by omega) (by omega)⟩⟩⟩, fun j u hj => ?_⟩
    rw [block_cell h]
    simp only [Nat.zero_mul, Nat.zero_add] at *
    rw [← Array.getElem?_toList]
    exact hj
  | i + 1, hi => simp at hi

/-! ### What is not touched -/
/-- What the law asks of a graph, the ops, and who is touched. -/
structure NearF (s : Scm) (g o : Grf) (l : List Opr) (L : List Int) : Prop where
  node : ∀ n ∈ g.nodes, (L.any fun y => y == n.id) = false → nodeE o n.id = 0 ∧ nodeR o n.id = n
  ends : ∀ n ∈ g.nodes, (L.any fun y => y == n.id) = false → ∀ bond, nodeE g n.id = 0 ∧ endsR g n.id bond false = endsR o n.id bond false
  faults : ∀ f ∈ gckR s g l, I64 f.node → (L.any fun y => y == f.node) = false → f.what = 4
theorem any_touch {g : Grf} {l : List Opr} {L : List Int} (h : Asc (touchS g l) L) {x : Int} (hx : I64 x) (ha : (L.any fun y => y == x) = false) : ¬ touchL g l x := fun ht => by
  have h1 := (h.2.2 x hx).2 ((touchS_iff g l x).2 ht)
  rw [List.any_eq_false] at ha
  exact ha x h1 (by simp)
theorem nodeE_of {g : Grf} (h : grfE g = 0) {n : Nod} (hn : n ∈ g.nodes) : nodeE g n.id = 0 ∧ nodeR g n.id = n := by
  obtain ⟨h1, h2⟩ := fpos_of h hn
  have e : nodeE g n.id = 0 := by unfold nodeE; rw [if_pos h, if_pos h1]
  exact ⟨e, by unfold nodeR; rw [if_pos e, h2]; rfl⟩
theorem near_facts (s : Scm) {g : Grf} {l : List Opr} {L : List Int} (h : dallE g l = 0) (hL : Asc (touchS g l) L) (hid : ∀ n ∈ g.nodes, I64 n.id) : NearF s g (dallG g l) l L := by
  obtain ⟨_, h1, h2, h3, h4⟩ := dall_zero h
  have hN := near_all h1 h2
  rw [← h3] at hN
  have hU : ∀ x, I64 x → (L.any fun y => y == x) = false → ¬ touchL g l x := fun x hx ha => any_touch hL hx ha
  refine ⟨fun n hn ha => nodeE_of h4 (hN.n1 n hn (hU _ (hid n hn) ha)), fun n hn ha bond => ?_, fun f hf hi ha => ?_⟩
  · have hu := hU _ (hid n hn) ha
    have e1 := (nodeE_of h1 hn).1
    have e2 := (nodeE_of h4 (hN.n1 n hn hu)).1
    exact ⟨e1, by unfold endsR; rw [if_pos e1, if_pos e2, near_ends h1 h4 hN hu bond]⟩
  · unfold gckR at hf
    split at hf
    · rename_i hz
      unfold gckE at hz
      split at hz
      · split at hz
        · rename_i _ h5
          exact near_faults h1 h4 hN (List.eq_nil_of_length_eq_zero h5) f hf (hU _ hi ha)
        · simp at hz
      · rename_i h5; exact absurd hz h5
    · simp at hf
theorem nflt_at {w : World} {A : Option Addr} {k n c : Nat} {l : List Flt} (h : Sl fltL w (.slice A n c) l) {d : Flt} (hk : l[k]? = some d) :
    ∃ b o, A = some ⟨b, o, none⟩ ∧ d.ok ∧ w.cell? ⟨b, o + k * 3, none⟩ = some (.int .i64 d.what) ∧ w.cell? ⟨b, o + k * 3 + 1, none⟩ = some (.int .i64 d.node) ∧ w.cell? ⟨b, o + k * 3 + 2, none⟩ = some (.string d.name) := by
  obtain ⟨b, o, hA, hall⟩ := h.all (len_pos hk)
  obtain ⟨cs, ⟨rfl, ok⟩, hx⟩ := hall k d hk
  exact ⟨b, o, hA, ok, hx 0 _ rfl, hx 1 _ rfl, hx 2 _ rfl⟩

set_option maxRecDepth 100000 in
set_option maxHeartbeats 32000000 in
theorem guardNear_any (s : Scm) (g : Grf) (l : List Opr) (vk vb vn vt vl : Value) (w : World) (hs : ScmR w vk vb s) (hg : GrfR w vn vt g) (hl : Sl oprL w vl l) :
    Calls Tryz.prog 3 #[.agg #[vk, vb], .agg #[vn, vt], vl] w fun e w' => e = .returned (.bool true) ∧ Below w.heap.size w w' := by
  obtain ⟨A1, c1, rfl, _, _⟩ := hs.1.form
  obtain ⟨A2, c2, rfl, _, _⟩ := hs.2.form
  obtain ⟨A3, c3, rfl, _, _⟩ := hg.1.form
  obtain ⟨A4, c4, rfl, _, _⟩ := hg.2.form
  obtain ⟨W0, hW0⟩ : ∃ W0, W0 = (w.alloc (.cells #[.slice A1 s.kinds.length c1, .slice A2 s.bonds.length c2] 25)).alloc (.cells #[.slice A3 g.nodes.length c3, .slice A4 g.ties.length c4] 29) := ⟨_, rfl⟩
  have hb0 : Below w.heap.size w W0 := by rw [hW0]; exact ((Below.refl _ _).alloc (Nat.le_refl _) _).alloc (by simp) _
  have g0 : W0.heap[w.heap.size]? = some (.cells #[.slice A1 s.kinds.length c1, .slice A2 s.bonds.length c2] 25 (0, 0)) := by
    rw [hW0, Below.heap_alloc _ _ _ (by simp)]; exact heap_alloc_new _ _
  have g1 : W0.heap[w.heap.size + 1]? = some (.cells #[.slice A3 g.nodes.length c3, .slice A4 g.ties.length c4] 29 (0, 0)) := by
    have := heap_alloc_new (w.alloc (.cells #[.slice A1 s.kinds.length c1, .slice A2 s.bonds.length c2] 25)) (.cells #[.slice A3 g.nodes.length c3, .slice A4 g.ties.length c4] 29); rw [hW0]; simpa using this
  have hW0' := hW0.symm
  have HG0 := Lib.hid g0
  have HG1 := Lib.hid g1
  have x0 := block_cell g0 0
  have x1 := block_cell g0 1
  have y0 := block_cell g1 0
  have y1 := block_cell g1 1
  have hw0 := hb0.size
  obtain ⟨A5, c5, rfl, _, hlm⟩ := hl.form
  unfold maxLen at hlm
  have HS := Lib.hid (hs.below hb0)
  have HG := Lib.hid (hg.below hb0)
  have HL := Lib.hid (hl.below hb0)
  -- the small graph
  obtain ⟨Wa, hWa⟩ : ∃ Wa, Wa = ((W0.alloc (.cells #[.int .i64 1, .string ⟨#[97]⟩, .slice none 0 0, .int .i64 2, .string ⟨#[97]⟩, .slice none 0 0] 34)).alloc (.cells #[.string ⟨#[112]⟩, .int .i64 1, .int .i64 2] 36)).alloc (.cells #[.slice (some ⟨W0.heap.size, 0, none⟩) 2 2, .slice (some ⟨W0.heap.size + 1, 0, none⟩) 1 1] 29) := ⟨_, rfl⟩
  have hba : Below W0.heap.size W0 Wa := by rw [hWa]; exact (((Below.refl _ _).alloc (Nat.le_refl _) _).alloc (by simp) _).alloc (by simp; omega) _
  have n1 : Wa.heap[W0.heap.size]? = some (.cells #[.int .i64 1, .string ⟨#[97]⟩, .slice none 0 0, .int .i64 2, .string ⟨#[97]⟩, .slice none 0 0] 34 (0, 0)) := by
    rw [hWa, Below.heap_alloc _ _ _ (by simp; omega), Below.heap_alloc _ _ _ (by simp)]; exact heap_alloc_new _ _
  have n2 : Wa.heap[W0.heap.size + 1]? = some (.cells #[.string ⟨#[112]⟩, .int .i64 1, .int .i64 2] 36 (0, 0)) := by
    have := heap_alloc_new (W0.alloc (.cells #[.int .i64 1, .string ⟨#[97]⟩, .slice none 0 0, .int .i64 2, .string ⟨#[97]⟩, .slice none 0 0] 34)) (.cells #[.string ⟨#[112]⟩, .int .i64 1, .int .i64 2] 36); rw [hWa, Below.heap_alloc _ _ _ (by simp)]; simpa using this
  have n3 : Wa.heap[W0.heap.size + 1 + 1]? = some (.cells #[.slice (some ⟨W0.heap.size, 0, none⟩) 2 2, .slice (some ⟨W0.heap.size + 1, 0, none⟩) 1 1] 29 (0, 0)) := by
    have := heap_alloc_new ((W0.alloc (.cells #[.int .i64 1, .string ⟨#[97]⟩, .slice none 0 0, .int .i64 2, .string ⟨#[97]⟩, .slice none 0 0] 34)).alloc (.cells #[.string ⟨#[112]⟩, .int .i64 1, .int .i64 2] 36)) (.cells #[.slice (some ⟨W0.heap.size, 0, none⟩) 2 2, .slice (some ⟨W0.heap.size + 1, 0, none⟩) 1 1] 29); rw [hWa]; simpa using this
  have hbo : Below Wa.heap.size Wa (Wa.alloc (.cells (oprCells gone2r (.slice none 0 0)) 47)) := (Below.refl _ _).alloc (Nat.le_refl _) _
  have hx := touched_any factG [gone2r] _ _ _ _ ((factG_at n1 n2).below hbo) (gone2_at (heap_alloc_new Wa (.cells (oprCells gone2r (.slice none 0 0)) 47)))
  rw [factG_all, errV_zero rfl] at hx
  have z0 := block_cell n3 0
  have z1 := block_cell n3 1
  have hWa' := hWa.symm
  have X0 := Lib.hid x0
  have X1 := Lib.hid x1
  have Y0 := Lib.hid y0
  have Y1 := Lib.hid y1
  clear hs hg hl g0 g1 hW0 x0 x1 y0 y1 n1 n2 n3 hWa
  go_enter Tryz.func3, Tryz.ntmps3
  go_upto_region 1 with fail
  clear hW0'
  go_wp2_with fail
  clear hWa'
  refine hx.mono ?_
  clear hx z0 z1
  rintro e w1 ⟨v8, L8, rfl, hL8, hA8, _, hb1⟩
  obtain rfl := factG_list (hA8 (by trivial))
  have hB1 := (hba.trans (hbo.mono hba.size)).trans (hb1.mono (by have := (hba.trans (hbo.mono hba.size)).size; exact this))
  obtain ⟨Av, cv, rfl, _, _⟩ := hL8.form
  obtain ⟨b8, o8, rfl, _, q0⟩ := int_at hL8 (k := 0) (d := 1) rfl
  have q0 : w1.cell? ⟨b8, o8, none⟩ = some (.int .i64 1) := by simpa using q0
  clear hL8 hA8 hb1 hbo hba
  have x0 := cell_below hB1 X0.out
  have x1 := cell_below hB1 X1.out
  have y0 := cell_below hB1 Y0.out
  have y1 := cell_below hB1 Y1.out
  have hx := touched_any g l _ _ _ w1 (HG.out.below hB1) (HL.out.below hB1)
  have HNF : Hid (∀ L, dallE g l = 0 → Asc (touchS g l) L → (∀ n ∈ g.nodes, I64 n.id) → NearF s g (dallG g l) l L) := fun L h hA hid => near_facts s h hA hid
  have HDA : Hid (∀ W, Below W0.heap.size W0 W → Calls Tryz.prog 5 #[.agg #[.slice A3 g.nodes.length c3, .slice A4 g.ties.length c4], .slice A5 l.length c5] W (RetA (dallG g l) (dallI g l) (dallE g l) W)) := fun W hW => dall_any g l _ _ _ W (HG.out.below hW) (HL.out.below hW)
  have HCK : Hid (∀ W, Below W0.heap.size W0 W → Calls Tryz.prog 11 #[.agg #[.slice A1 s.kinds.length c1, .slice A2 s.bonds.length c2], .agg #[.slice A3 g.nodes.length c3, .slice A4 g.ties.length c4], .slice A5 l.length c5] W (RetF (gckR s g l) (gckE s g l) W)) := fun W hW => gck_any s g l _ _ _ _ _ W (HS.out.below hW) (HG.out.below hW) (HL.out.below hW)
  have HNI : Hid (dallE g l = 0 → g.nodes.length ≤ 60 ∧ g.ties.length ≤ 120 ∧ (∀ n ∈ g.nodes, I64 n.id)) := fun h => by
    obtain ⟨_, h1, _⟩ := dall_zero h
    refine ⟨(grf_ok h1).1, (grf_ok h1).2.1, fun n hn => ?_⟩
    obtain ⟨i, hi⟩ := List.mem_iff_getElem?.1 hn
    obtain ⟨A9, c9, hv9, _, _⟩ := HG.out.1.form
    obtain ⟨_, _, _, _, h64, _⟩ := nod_at HG.out.1 hi
    exact h64
  unfold RetA at HDA
  unfold RetF at HCK
  generalize dallE g l = de at *
  generalize dallG g l = og at *
  generalize dallI g l = di at *
  obtain ⟨fs, hfs⟩ : ∃ x, gckR s g l = x := ⟨_, rfl⟩
  rw [hfs] at HCK
  have HFS := Lib.hid hfs
  clear hfs
  generalize gckE s g l = ce at *
  go_wp2_with fail
  refine hx.mono ?_
  clear hx q0 x0 x1 y0 y1
  rintro e w2 ⟨v10, L, rfl, hL, hAs, _, hb2⟩
  have hB2 := hB1.trans (hb2.mono hB1.size)
  obtain ⟨A10, c10, rfl, _, _⟩ := hL.form
  have HLL := Lib.hid hL
  clear hb2 hB1 hL
  by_cases hz : de = 0
  case neg =>
    rw [errV_some hz]
    have hbw := hb0.trans (hB2.mono hw0)
    clear hz
    go_wp2_with fail
    go_ret
    exact ⟨rfl, hbw⟩
  obtain ⟨hnl, htl, hni⟩ := HNI.out hz
  have HNE := Lib.hid (HNF.out L hz (hAs hz) hni)
  rw [errV_zero hz]
  have hx := HDA.out w2 hB2
  rw [errV_zero hz] at hx
  have y0 := cell_below hB2 Y0.out
  have y1 := cell_below hB2 Y1.out
  clear hz hAs HNF HDA HNI hni
  go_wp2_with fail
  refine hx.mono ?_
  clear hx y0 y1
  rintro e w3 ⟨vo, wo, rfl, hro, hb3⟩
  obtain ⟨A6, c6, rfl, _, _⟩ := hro.1.form
  obtain ⟨A7, c7, rfl, _, _⟩ := hro.2.form
  have hB3 := hB2.trans (hb3.mono hB2.size)
  go_upto_region 9 with fail
  have hz12 := heap_alloc_new w3 (.cells #[.slice A6 og.nodes.length c6, .slice A7 og.ties.length c7] 29)
  have hba : Below w3.heap.size w3 (w3.alloc (.cells #[.slice A6 og.nodes.length c6, .slice A7 og.ties.length c7] 29)) := (Below.refl _ _).alloc (Nat.le_refl _) _
  have HRO := Lib.hid (hro.below hba)
  have HLL := Lib.hid ((HLL.out.below hb3).below hba)
  generalize w3.alloc (.cells #[.slice A6 og.nodes.length c6, .slice A7 og.ties.length c7] 29) = w4 at *
  obtain ⟨b12, hb12⟩ : ∃ b, b = w3.heap.size := ⟨_, rfl⟩
  rw [← hb12] at hz12 ⊢
  have hB4 := hB3.trans (hba.mono hB3.size)
  have HZ := Lib.hid hz12
  clear hro hb3 hba hB3 hB2 hz12 hb12
  go_wp2_with fail
  go_loopw [15] (fun i wr => ∃ k : Nat, k ≤ g.nodes.length ∧ i = .int .i64 k ∧ Below w4.heap.size w4 wr) (fun i _ => g.nodes.length - (intOf i).toNat)
  case atStart => exact ⟨0, Nat.zero_le _, rfl, Below.refl _ _⟩
  case round =>
    obtain ⟨k, hk, rfl, hbr⟩ := hrel
    have hWr := hB4.trans (hbr.mono hB4.size)
    have y0 := cell_below hWr Y0.out
    have y1 := cell_below hWr Y1.out
    by_cases hlt : k < g.nodes.length
    · obtain ⟨n, hd⟩ : ∃ d, g.nodes[k]? = some d := ⟨_, List.getElem?_eq_getElem hlt⟩
      have hlt' : (k : Int) < (g.nodes.length : Int) := by omega
      obtain ⟨gb, oo, hA3, un, hid, hkd, hun, q0, q1, q2⟩ := nod_at (HG.out.below hWr).1 hd
      subst hA3
      obtain ⟨An, cn, rfl, _, _⟩ := hun.form
      have hbk := heap_alloc_new wr (.cells #[.int .i64 n.id, .string n.kind, .slice An n.props.length cn] 34)
      have ha1 : Below wr.heap.size wr (wr.alloc (.cells #[.int .i64 n.id, .string n.kind, .slice An n.props.length cn] 34)) := (Below.refl _ _).alloc (Nat.le_refl _) _
      have HNN : Hid ((L.any fun y => y == n.id) = false → nodeE og n.id = 0 ∧ nodeR og n.id = n) := fun h => HNE.out.node n (List.mem_of_getElem? hd) h
      have HNX : Hid ((L.any fun y => y == n.id) = false → ∀ bond, nodeE g n.id = 0 ∧ endsR g n.id bond false = endsR og n.id bond false) := fun h => HNE.out.ends n (List.mem_of_getElem? hd) h
      clear hd
      go_upto_region 15 with fail
      generalize wr.alloc (.cells #[.int .i64 n.id, .string n.kind, .slice An n.props.length cn] 34) = wa at *
      obtain ⟨b16, hb16⟩ : ∃ b, b = wr.heap.size := ⟨_, rfl⟩
      rw [← hb16] at hbk ⊢
      have hba := hbr.trans (ha1.mono hbr.size)
      have HUN := Lib.hid (hun.below ha1)
      have HBK := Lib.hid hbk
      have z0 := block_cell hbk 0
      have hx := in2_any L n.id _ wa (HLL.out.below hba)
      generalize (L.any fun y => y == n.id) = tb at *
      clear q0 q1 q2 y0 y1 hbr hWr ha1 hb16 hbk hun
      go_wp2_with fail
      refine hx.mono ?_
      clear hx z0
      rintro e wb ⟨rfl, rfl⟩
      cases tb with
      | true =>
        clear HNN HNX HBK HUN
        go_wp2_with fail
        go_roundw
        case rel => exact ⟨k + 1, by omega, by go_num, hba⟩
        case measure => simp [intOf]; omega
      | false =>
        obtain ⟨hnE, hnR⟩ := HNN.out rfl
        have HEX := Lib.hid (HNX.out rfl)
        have HE3 := Lib.hid hnE
        have hx := gnode_any og n.id _ _ wa (HRO.out.below hba)
        unfold RetN at hx
        rw [hnE, hnR, errV_zero rfl] at hx
        have z0 := block_cell HBK.out 0
        have hzr := (hba.block _ (Array.getElem?_eq_some_iff.1 HZ.out).1).trans HZ.out
        have r0 := block_cell hzr 0
        have r1 := block_cell hzr 1
        clear HNN HNX hnE hnR hzr
        go_wp2_with fail
        refine hx.mono ?_
        clear hx z0 r0 r1
        rintro e w5 ⟨um, rfl, hum, hb5⟩
        obtain ⟨Am, cm, rfl, _, _⟩ := hum.form
        have hB5 := hba.trans (hb5.mono hba.size)
        have hbk5 := (hb5.block _ (Array.getElem?_eq_some_iff.1 HBK.out).1).trans HBK.out
        have hun5 := HUN.out.below hb5
        go_upto_region 18 with fail
        have hbm := heap_alloc_new w5 (.cells #[.int .i64 n.id, .string n.kind, .slice Am n.props.length cm] 34)
        have ha5 : Below w5.heap.size w5 (w5.alloc (.cells #[.int .i64 n.id, .string n.kind, .slice Am n.props.length cm] 34)) := (Below.refl _ _).alloc (Nat.le_refl _) _
        have hum6 := hum.below ha5
        have hun6 := hun5.below ha5
        have hbk6 := (ha5.block _ (Array.getElem?_eq_some_iff.1 hbk5).1).trans hbk5
        generalize w5.alloc (.cells #[.int .i64 n.id, .string n.kind, .slice Am n.props.length cm] 34) = w6 at *
        have hB6 := hB5.trans (ha5.mono hB5.size)
        have z0 := block_cell hbk6 0
        have z1 := block_cell hbk6 1
        have z2 := block_cell hbk6 2
        have m0 := block_cell hbm 0
        have m1 := block_cell hbm 1
        have m2 := block_cell hbm 2
        have hx := snode_any n n _ _ w6 hum6 hun6
        rw [decide_eq_true rfl] at hx
        have HBK6 := Lib.hid hbk6
        clear hbk5 hbk6 hbm hum hum6 hun5 hun6 HUN HBK hb5 ha5 hB5 hba
        go_wp2_with fail
        refine hx.mono ?_
        clear hx z0 z1 z2 m0 m1 m2
        rintro e w7 ⟨rfl, hb7⟩
        have hB7 := hB6.trans (hb7.mono hB6.size)
        have HB7 := Lib.hid ((hb7.block _ (Array.getElem?_eq_some_iff.1 HBK6.out).1).trans HBK6.out)
        clear HBK6 hb7 hB6
        go_wp2_with fail
        go_loopw [21] (fun i wr => ∃ j : Nat, j ≤ g.ties.length ∧ i = .int .i64 j ∧ Below w4.heap.size w4 wr ∧ Hid (wr.heap[b16]? = some (.cells #[.int .i64 n.id, .string n.kind, .slice An n.props.length cn] 34 (0, 0)))) (fun i _ => g.ties.length - (intOf i).toNat)
        case atStart => exact ⟨0, Nat.zero_le _, rfl, hB7, HB7⟩
        case round =>
          clear HB7 hB7
          obtain ⟨j, hj, rfl, hbj, HBJ⟩ := hrel
          have hWj := hB4.trans (hbj.mono hB4.size)
          have y0 := cell_below hWj Y0.out
          have y1 := cell_below hWj Y1.out
          by_cases hjl : j < g.ties.length
          · obtain ⟨t, ht⟩ : ∃ d, g.ties[j]? = some d := ⟨_, List.getElem?_eq_getElem hjl⟩
            have hjl' : (j : Int) < (g.ties.length : Int) := by omega
            obtain ⟨gt, ot, hA4, hokt, p0, p1, p2⟩ := tie_at (HG.out.below hWj).2 ht
            subst hA4
            have hbt := heap_alloc_new wr (.cells #[.string t.bond, .int .i64 t.src, .int .i64 t.dst] 36)
            have ha2 : Below wr.heap.size wr (wr.alloc (.cells #[.string t.bond, .int .i64 t.src, .int .i64 t.dst] 36)) := (Below.refl _ _).alloc (Nat.le_refl _) _
            obtain ⟨hE1, hE2⟩ := HEX.out t.bond
            have hE3 : nodeE og n.id = 0 := HE3.out
            clear ht hokt
            go_upto_region 25 with fail
            generalize wr.alloc (.cells #[.string t.bond, .int .i64 t.src, .int .i64 t.dst] 36) = wt at *
            obtain ⟨b22, hb22⟩ : ∃ b, b = wr.heap.size := ⟨_, rfl⟩
            rw [← hb22] at hbt ⊢
            have hbT := hbj.trans (ha2.mono hbj.size)
            have hWt := hB4.trans (hbT.mono hB4.size)
            have hbk := (ha2.block _ (Array.getElem?_eq_some_iff.1 HBJ.out).1).trans HBJ.out
            have HBT := Lib.hid hbt
            have HBK := Lib.hid hbk
            have z0 := block_cell hbk 0
            have t0 := block_cell hbt 0
            have y0 := cell_below hWt Y0.out
            have y1 := cell_below hWt Y1.out
            have hx := gout_any g n.id t.bond _ _ wt (HG.out.below hWt)
            unfold RetE at hx
            obtain ⟨ee, hee⟩ : ∃ x, endsR og n.id t.bond false = x := ⟨_, rfl⟩
            rw [hE1, hE2, hee, errV_zero rfl] at hx
            have HEE := Lib.hid hee
            clear hee
            clear p0 p1 p2 ha2 hb22 hbj hWj HBJ hbk hbt
            go_wp2_with fail
            refine hx.mono ?_
            clear hx z0 t0 y0 y1
            rintro e w8 ⟨ux, rfl, hux, hb8⟩
            obtain ⟨Ax, cx, rfl, _, _⟩ := hux.form
            have hB8 := hbT.trans (hb8.mono hbT.size)
            have hbk := (hb8.block _ (Array.getElem?_eq_some_iff.1 HBK.out).1).trans HBK.out
            have hbt := (hb8.block _ (Array.getElem?_eq_some_iff.1 HBT.out).1).trans HBT.out
            have hzr := (hB8.block _ (Array.getElem?_eq_some_iff.1 HZ.out).1).trans HZ.out
            have z0 := block_cell hbk 0
            have t0 := block_cell hbt 0
            have r0 := block_cell hzr 0
            have r1 := block_cell hzr 1
            have HBK := Lib.hid hbk
            have hx := gout_any og n.id t.bond _ _ w8 (HRO.out.below hB8)
            unfold RetE at hx
            rw [hE3, HEE.out, errV_zero rfl] at hx
            clear hbk hbt hzr hb8 hbT hWt hE1 hE2 hE3 HBT
            go_wp2_with fail
            refine hx.mono ?_
            clear hx z0 t0 r0 r1
            rintro e w9 ⟨uy, rfl, huy, hb9⟩
            obtain ⟨Ay, cy, rfl, _, _⟩ := huy.form
            have hB9 := hB8.trans (hb9.mono hB8.size)
            have HB9 := Lib.hid ((hb9.block _ (Array.getElem?_eq_some_iff.1 HBK.out).1).trans HBK.out)
            have hx := ints_any _ _ _ _ w9 (hux.below hb9) huy
            rw [decide_eq_true rfl] at hx
            clear hux huy hb9 hB8 HBK
            go_wp2_with fail
            refine hx.mono ?_
            clear hx
            rintro e w10 ⟨rfl, hb10⟩
            have hB10 := hB9.trans (hb10.mono hB9.size)
            have HB10 := Lib.hid ((hb10.block _ (Array.getElem?_eq_some_iff.1 HB9.out).1).trans HB9.out)
            clear HB9 hB9 hb10
            go_wp2_with fail
            go_roundw
            case rel => exact ⟨j + 1, by omega, by go_num, hB10, HB10⟩
            case measure => simp [intOf]; omega
          · obtain rfl : j = g.ties.length := by omega
            clear HBJ
            go_wp2_with fail
            go_roundw
            case rel => exact ⟨k + 1, by omega, by go_num, hbj⟩
            case measure => simp [intOf]; omega
    · obtain rfl : k = g.nodes.length := by omega
      have x0 := cell_below hWr X0.out
      have x1 := cell_below hWr X1.out
      have hx := HCK.out wr hWr
      have HNW : Hid (∀ f ∈ fs, I64 f.node → (L.any fun y => y == f.node) = false → f.what = 4) := by have := HNE.out.faults; rw [HFS.out] at this; exact this
      clear HNE HRO HZ HCK
      go_wp2_with fail
      refine hx.mono ?_
      clear hx x0 x1 y0 y1
      rintro e w5 ⟨uf, rfl, huf, hb5⟩
      obtain ⟨Af, cf, rfl, _, hfm⟩ := huf.form
      unfold maxLen at hfm
      have hB5 := hbr.trans (hb5.mono hbr.size)
      have hbw := hb0.trans ((hB4.trans (hB5.mono hB4.size)).mono hw0)
      have HUF := Lib.hid huf
      have HL5 := Lib.hid (HLL.out.below hB5)
      clear huf hb5 hbr hWr hB5
      generalize errV ce = ev at *
      go_wp2_with fail
      go_loopw [29] (fun i wr => ∃ k : Nat, k ≤ fs.length ∧ i = .int .i64 k ∧ Below w5.heap.size w5 wr) (fun i _ => fs.length - (intOf i).toNat)
      case atStart => exact ⟨0, Nat.zero_le _, rfl, Below.refl _ _⟩
      case round =>
        obtain ⟨k, hk, rfl, hbr⟩ := hrel
        have hbX := hbw.trans (hbr.mono hbw.size)
        by_cases hlt : k < fs.length
        · obtain ⟨f, hd⟩ : ∃ d, fs[k]? = some d := ⟨_, List.getElem?_eq_getElem hlt⟩
          have hlt' : (k : Int) < (fs.length : Int) := by omega
          obtain ⟨gf, of, hAf, hokf, q0, q1, q2⟩ := nflt_at (HUF.out.below hbr) hd
          subst hAf
          have hx := in2_any L f.node _ wr (HL5.out.below hbr)
          have HW : Hid ((L.any fun y => y == f.node) = false → f.what = 4) := HNW.out f (List.mem_of_getElem? hd) hokf.2.1
          generalize (L.any fun y => y == f.node) = tb at *
          clear hd hokf
          go_wp2_with fail
          refine hx.mono ?_
          clear hx
          rintro e wb ⟨rfl, rfl⟩
          cases tb with
          | true =>
            go_wp2_with fail
            go_roundw
            case rel => exact ⟨k + 1, by omega, by go_num, hbr⟩
            case measure => simp [intOf]; omega
          | false =>
            have hw := HW.out rfl
            rw [hw] at q0
            go_wp2_with fail
            go_roundw
            case rel => exact ⟨k + 1, by omega, by go_num, hbr⟩
            case measure => simp [intOf]; omega
        · obtain rfl : k = fs.length := by omega
          go_wp2_with fail
          go_ret
          exact ⟨rfl, hbX⟩
end Go.Proofs.YtkegnmclhkpbkaaGreat
