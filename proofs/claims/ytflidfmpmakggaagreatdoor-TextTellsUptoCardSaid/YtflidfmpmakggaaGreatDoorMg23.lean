/- Parts: IntS, GtA, GtB, As. -/
import Derived.Test.YtflidfmpmakggaaGreatDoorMg06
import Derived.Test.YtflidfmpmakggaaGreatDoorMg11
import Derived.Test.YtflidfmpmakggaaGreatDoorMg05
import Derived.Test.YtflidfmpmakggaaGreatDoorMg22
import Derived.Test.YtflidfmpmakggaaGreatDoorMg01
import Derived.Test.YtflidfmpmakggaaGreatDoorRows
import Derived.WalkKit
import Derived.LaidEql
import Derived.Stop.Asserts
import Derived.RowKitTokens
/- Contract: kinsame.Ints: whether two lists of ints are the same. No condition. -/
namespace Go.Proofs.YtflidfmpmakggaaGreatDoor
open Go Go.RowKit





theorem prp_guard (op : BinOp) (a b : Operand) (xs ys : Array Value) (w : World) : (eqGuard op 181 a b (.agg xs) (.agg ys)).run Tryz.prog w = .ok () w := run_eqGuard_agg w op 181 a b xs ys (by kernel_rfl)
theorem tie_guard (op : BinOp) (a b : Operand) (xs ys : Array Value) (w : World) : (eqGuard op 102 a b (.agg xs) (.agg ys)).run Tryz.prog w = .ok () w := run_eqGuard_agg w op 102 a b xs ys (by kernel_rfl)
theorem pval_same (d : Nat) (x y : Val) (w : World) : (Op.equalIn (d + 2) 70 (.agg #[.int .i64 x.ty, .int .i64 x.n, .string x.s]) (.agg #[.int .i64 y.ty, .int .i64 y.n, .string y.s])).run Tryz.prog w = .ok (decide (x = y)) w := by
  have hS : Tryz.prog.underlying 70 = some (.struct (Tryz.prog.fieldsOf 70)) := by kernel_rfl
  have hp : Tryz.prog.stoodInHeld 70 = false := by kernel_rfl
  have e1 := Tryz.underlying9
  have e2 := Tryz.underlying3
  rw [run_equalIn_agg w (d + 1) 70 _ _ hS hp]
  simp only [Program.fieldsOf, Tryz.underlying70]
  go_simp
  simp only [bytes_eq]
  cases x; cases y
  simp only [Val.mk.injEq]
  rename_i a b c a' b' c'
  by_cases h1 : a = a' <;> by_cases h2 : b = b' <;> by_cases h3 : c = c' <;> simp [h1, h2, h3]
set_option maxRecDepth 100000 in
theorem prp_same (d : Nat) (x y : Prp) (w : World) : (Op.equalIn (d + 3) 181 (.agg #[.string x.name, .int .i64 x.v.ty, .int .i64 x.v.n, .string x.v.s]) (.agg #[.string y.name, .int .i64 y.v.ty, .int .i64 y.v.n, .string y.v.s])).run Tryz.prog w = .ok (decide (x = y)) w := by
  have hS : Tryz.prog.underlying 181 = some (.struct (Tryz.prog.fieldsOf 181)) := by kernel_rfl
  have hp : Tryz.prog.stoodInHeld 181 = false := by kernel_rfl
  have hv := pval_same d x.v y.v w
  have e1 := Tryz.underlying9
  have e2 := Tryz.underlying3
  have e3 := Tryz.underlying70
  have HV := Lib.hid hv
  clear hv
  rw [run_equalIn_agg w (d + 2) 181 _ _ hS hp]
  simp only [Program.fieldsOf, Tryz.underlying181]
  clear hS hp
  go_simp
  clear HV
  simp only [bytes_eq]
  cases x with | mk f v => cases y with | mk f' v' =>
  cases v; cases v'
  simp only [Prp.mk.injEq, Val.mk.injEq]
  rename_i a b c a' b' c'
  by_cases h0 : f = f' <;> by_cases h1 : a = a' <;> by_cases h2 : b = b' <;> by_cases h3 : c = c' <;> simp [h0, h1, h2, h3]
theorem prp_neq (x y : Prp) (w : World) : (binOp .neq 181 (.agg #[.string x.name, .int .i64 x.v.ty, .int .i64 x.v.n, .string x.v.s]) (.agg #[.string y.name, .int .i64 y.v.ty, .int .i64 y.v.n, .string y.v.s])).run Tryz.prog w = .ok (.bool (!decide (x = y))) w := by
  rw [run_neq_struct, show (10000 : Nat) = 9997 + 3 from rfl, prp_same]; rfl
theorem tie_same (d : Nat) (x y : Tie) (w : World) : (Op.equalIn (d + 2) 102 (.agg #[.string x.bond, .int .i64 x.src, .int .i64 x.dst]) (.agg #[.string y.bond, .int .i64 y.src, .int .i64 y.dst])).run Tryz.prog w = .ok (decide (x = y)) w := by
  have hS : Tryz.prog.underlying 102 = some (.struct (Tryz.prog.fieldsOf 102)) := by kernel_rfl
  have hp : Tryz.prog.stoodInHeld 102 = false := by kernel_rfl
  have e1 := Tryz.underlying9
  have e2 := Tryz.underlying3
  rw [run_equalIn_agg w (d + 1) 102 _ _ hS hp]
  simp only [Program.fieldsOf, Tryz.underlying102]
  go_simp
  simp only [bytes_eq]
  cases x; cases y
  simp only [Tie.mk.injEq]
  rename_i a b c a' b' c'
  by_cases h1 : a = a' <;> by_cases h2 : b = b' <;> by_cases h3 : c = c' <;> simp [h1, h2, h3]
theorem tie_neq (x y : Tie) (w : World) : (binOp .neq 102 (.agg #[.string x.bond, .int .i64 x.src, .int .i64 x.dst]) (.agg #[.string y.bond, .int .i64 y.src, .int .i64 y.dst])).run Tryz.prog w = .ok (.bool (!decide (x = y))) w := by
  rw [run_neq_struct, show (10000 : Nat) = 9998 + 2 from rfl, tie_same]; rfl
set_option maxHeartbeats 1000000 in
theorem srecord_any_q (a b : List Prp) (va vb : Value) (w : World) (ha : Sl prpL w va a) (hb : Sl prpL w vb b) : Calls Tryz.prog 111 #[va, vb] w fun e w' => e = .returned (.bool (decide (a = b))) ∧ ∃ m, w' = w.drewN m := by
  obtain ⟨A, c, rfl, _, hcm⟩ := ha.form
  obtain ⟨B, d, rfl, _, hdm⟩ := hb.form
  unfold maxLen at hcm hdm
  by_cases hl : a.length = b.length
  case neg =>
    have HE : Hid (decide (a = b) = false) := decide_eq_false fun e => hl (by rw [e])
    have hl' : decide ((a.length : Int) = (b.length : Int)) = false := decide_eq_false (by omega)
    have hl2 : ((a.length : Int) == (b.length : Int)) = false := by rw [beq_eq_false_iff_ne]; omega
    clear ha hb hl
    go_enter Tryz.func111, Tryz.ntmps111
    go_wp2_with fail
    go_ret
    exact ⟨by rw [HE.out]; rfl, 0, rfl⟩
  have HL := Lib.hid hl
  have hlb : a.length ≤ b.length := by omega
  rw [← hl]
  clear hl
  go_enter Tryz.func111, Tryz.ntmps111
  go_wp2_with fail
  go_loopw [5] (fun i wr => ∃ k : Nat, k ≤ a.length ∧ i = .int .i64 k ∧ Below w.heap.size w wr ∧ Hid (∃ m, wr = w.drewN m) ∧ Hid (∀ j x y, j < k → a[j]? = some x → b[j]? = some y → x = y)) (fun i _ => a.length - (intOf i).toNat)
  case atStart => exact ⟨0, Nat.zero_le _, rfl, Below.refl _ _, ⟨0, rfl⟩, fun j x y hj => absurd hj (Nat.not_lt_zero _)⟩
  case round =>
    obtain ⟨k, hk, rfl, hbr, HM, HA⟩ := hrel
    by_cases hlt : k < a.length
    · obtain ⟨x, hx⟩ : ∃ d, a[k]? = some d := ⟨_, List.getElem?_eq_getElem hlt⟩
      obtain ⟨y, hy⟩ : ∃ d, b[k]? = some d := ⟨_, List.getElem?_eq_getElem (by omega)⟩
      have hlt' : (k : Int) < (a.length : Int) := by omega
      obtain ⟨b1, o1, rfl, _, x0, x1, x2, x3⟩ := prp_at (ha.below hbr) hx
      obtain ⟨b2, o2, rfl, _, y0, y1, y2, y3⟩ := prp_at (hb.below hbr) hy
      have hneq := prp_neq x y
      have hgd := prp_guard
      have HX := Lib.hid hx
      have HY := Lib.hid hy
      clear hx hy
      by_cases hq : x = y
      · have HS : Hid (∀ j x y, j < k + 1 → a[j]? = some x → b[j]? = some y → x = y) := fun j p q hj hp hq2 => by
          by_cases hjk : j = k
          · subst hjk
            have e1 := HX.out.symm.trans hp
            have e2 := HY.out.symm.trans hq2
            injection e1 with e1; injection e2 with e2
            rw [← e1, ← e2]; exact hq
          · exact HA.out j p q (by omega) hp hq2
        rw [decide_eq_true hq] at hneq
        clear ha hb hq
        go_wp2_with fail
        go_quiet (fail)
        go_wp2_with fail
        go_roundw
        case rel => exact ⟨k + 1, by omega, by go_num, below_drewN hbr _, drewN_step HM.out nq, HS⟩
        case measure => simp [intOf]; omega
      · have HE : Hid (decide (a = b) = false) := decide_eq_false fun e => by
          have e1 := HX.out
          rw [e, HY.out] at e1
          injection e1 with e1
          exact hq e1.symm
        rw [decide_eq_false hq] at hneq
        clear ha hb hq
        go_wp2_with fail
        go_quiet (fail)
        go_wp2_with fail
        go_ret
        exact ⟨by rw [HE.out]; rfl, drewN_step HM.out nq⟩
    · obtain rfl : k = a.length := by omega
      have HE : Hid (decide (a = b) = true) := decide_eq_true (lists_eq HL.out HA.out)
      clear ha hb
      go_wp2_with fail
      go_ret
      exact ⟨by rw [HE.out]; rfl, HM.out⟩
theorem srecord_any (a b : List Prp) (va vb : Value) (w : World) (ha : Sl prpL w va a) (hb : Sl prpL w vb b) : Calls Tryz.prog 111 #[va, vb] w fun e w' => e = .returned (.bool (decide (a = b))) ∧ Below w.heap.size w w' :=
  (srecord_any_q a b va vb w ha hb).mono fun _ _ ⟨h, m, hm⟩ => ⟨h, by rw [hm]; exact below_drewN (Below.refl _ _) m⟩
/-! ### Two nodes -/

theorem nod_eqB (a b : Nod) : decide (a = b) = (decide (a.props = b.props) && decide (a.id = b.id) && decide (a.kind = b.kind)) := by
  cases a; cases b
  simp only [Nod.mk.injEq]
  rename_i i k p i' k' p'
  by_cases h1 : i = i' <;> by_cases h2 : k = k' <;> by_cases h3 : p = p' <;> simp [h1, h2, h3]
set_option maxHeartbeats 2000000 in
theorem snode_any (a b : Nod) (u1 u2 : Value) (w : World) (f1 : Sl prpL w u1 a.props) (f2 : Sl prpL w u2 b.props) :
    Calls Tryz.prog 61 #[.agg #[.int .i64 a.id, .string a.kind, u1], .agg #[.int .i64 b.id, .string b.kind, u2]] w fun e w' => e = .returned (.bool (decide (a = b))) ∧ Below w.heap.size w w' := by
  obtain ⟨A1, c1, rfl, _, _⟩ := f1.form
  obtain ⟨A2, c2, rfl, _, _⟩ := f2.form
  obtain ⟨W0, hW0⟩ : ∃ W0, W0 = (w.alloc (.cells #[.int .i64 a.id, .string a.kind, .slice A1 a.props.length c1] 98)).alloc (.cells #[.int .i64 b.id, .string b.kind, .slice A2 b.props.length c2] 98) := ⟨_, rfl⟩
  have hb0 : Below w.heap.size w W0 := by rw [hW0]; exact ((Below.refl _ _).alloc (Nat.le_refl _) _).alloc (by simp) _
  have g0 : W0.heap[w.heap.size]? = some (.cells #[.int .i64 a.id, .string a.kind, .slice A1 a.props.length c1] 98 (0, 0)) := by
    rw [hW0, Below.heap_alloc _ _ _ (by simp)]; exact heap_alloc_new _ _
  have g1 : W0.heap[w.heap.size + 1]? = some (.cells #[.int .i64 b.id, .string b.kind, .slice A2 b.props.length c2] 98 (0, 0)) := by
    have := heap_alloc_new (w.alloc (.cells #[.int .i64 a.id, .string a.kind, .slice A1 a.props.length c1] 98)) (.cells #[.int .i64 b.id, .string b.kind, .slice A2 b.props.length c2] 98); rw [hW0]; simpa using this
  have hW0' := hW0.symm
  have hw0 := hb0.size
  have x0 := block_cell g0 0
  have x1 := block_cell g0 1
  have x2 := block_cell g0 2
  have y0 := block_cell g1 0
  have y1 := block_cell g1 1
  have y2 := block_cell g1 2
  have hr := srecord_any a.props b.props _ _ W0 (f1.below hb0) (f2.below hb0)
  have HF := Lib.hid (nod_eqB a b)
  have hkb : (a.kind.toList == b.kind.toList) = decide (a.kind = b.kind) := bytes_beq a.kind b.kind
  clear f1 f2 g0 g1 hW0
  generalize decide (a.props = b.props) = q at *
  generalize decide (a = b) = E at *
  go_enter Tryz.func61, Tryz.ntmps61
  go_wp2_with fail
  clear hW0'
  refine hr.mono ?_
  clear hr
  rintro e w1 ⟨rfl, hb1⟩
  have x0 := cell_below hb1 x0
  have x1 := cell_below hb1 x1
  have y0 := cell_below hb1 y0
  have y1 := cell_below hb1 y1
  have hBX := hb0.trans (hb1.mono hw0)
  clear x2 y2 hb1 hb0
  cases q with
  | false =>
    have HE : Hid (E = false) := by unfold Hid; rw [HF.out]; rfl
    clear HF
    go_wp2_with fail
    go_ret
    exact ⟨by rw [HE.out]; rfl, hBX⟩
  | true =>
    by_cases h1 : a.id = b.id
    case neg =>
      have HE : Hid (E = false) := by unfold Hid; rw [HF.out, decide_eq_false h1]; rfl
      have h1b : (a.id == b.id) = false := by rw [beq_eq_false_iff_ne]; exact h1
      clear HF h1
      go_wp2_with fail
      go_ret
      exact ⟨by rw [HE.out]; rfl, hBX⟩
    have h1b : (a.id == b.id) = true := by rw [beq_iff_eq]; exact h1
    by_cases h2 : a.kind = b.kind
    · have HE : Hid (E = true) := by unfold Hid; rw [HF.out, decide_eq_true h1, decide_eq_true h2]; rfl
      rw [decide_eq_true h2] at hkb
      have hkc : a.kind.toList = b.kind.toList := by rw [h2]
      clear HF h1 h2
      go_wp2_with fail
      go_ret
      exact ⟨by rw [HE.out]; rfl, hBX⟩
    · have HE : Hid (E = false) := by unfold Hid; rw [HF.out, decide_eq_true h1, decide_eq_false h2]; rfl
      rw [decide_eq_false h2] at hkb
      have hkc : ¬ a.kind.toList = b.kind.toList := by rw [bytes_eq]; exact h2
      clear HF h1 h2
      go_wp2_with fail
      go_ret
      exact ⟨by rw [HE.out]; rfl, hBX⟩



theorem pair_step {D : Type} {a b : List D} {k : Nat} {x y : D} (h : ∀ j x y, j < k → a[j]? = some x → b[j]? = some y → x = y) (hx : a[k]? = some x) (hy : b[k]? = some y) (hq : x = y) : ∀ j x y, j < k + 1 → a[j]? = some x → b[j]? = some y → x = y := fun j p q hj hp hq2 => by
  by_cases hjk : j = k
  · subst hjk
    have e1 := hx.symm.trans hp
    have e2 := hy.symm.trans hq2
    injection e1 with e1; injection e2 with e2
    rw [← e1, ← e2]; exact hq
  · exact h j p q (by omega) hp hq2
theorem pair_no {D : Type} {a b : List D} {k : Nat} {x y : D} (hx : a[k]? = some x) (hy : b[k]? = some y) (hq : ¬ x = y) : ¬ a = b := fun e => by
  rw [e, hy] at hx
  injection hx with e1
  exact hq e1.symm
set_option maxRecDepth 100000 in
set_option maxHeartbeats 8000000 in
theorem sgraph_any (a b : Grf) (k1 b1 k2 b2 : Value) (w : World) (h1 : GrfR w k1 b1 a) (h2 : GrfR w k2 b2 b) :
    Calls Tryz.prog 13 #[.agg #[k1, b1], .agg #[k2, b2]] w fun e w' => e = .returned (.bool (decide (a = b))) ∧ Below w.heap.size w w' := by
  obtain ⟨A1, c1, rfl, _, hm1⟩ := h1.1.form
  obtain ⟨A2, c2, rfl, _, hm2⟩ := h1.2.form
  obtain ⟨A3, c3, rfl, _, hm3⟩ := h2.1.form
  obtain ⟨A4, c4, rfl, _, hm4⟩ := h2.2.form
  unfold maxLen at hm1 hm2 hm3 hm4
  obtain ⟨W0, hW0⟩ : ∃ W0, W0 = (w.alloc (.cells #[.slice A1 a.nodes.length c1, .slice A2 a.ties.length c2] 25)).alloc (.cells #[.slice A3 b.nodes.length c3, .slice A4 b.ties.length c4] 25) := ⟨_, rfl⟩
  have hb0 : Below w.heap.size w W0 := by rw [hW0]; exact ((Below.refl _ _).alloc (Nat.le_refl _) _).alloc (by simp) _
  have g0 : W0.heap[w.heap.size]? = some (.cells #[.slice A1 a.nodes.length c1, .slice A2 a.ties.length c2] 25 (0, 0)) := by
    rw [hW0, Below.heap_alloc _ _ _ (by simp)]; exact heap_alloc_new _ _
  have g1 : W0.heap[w.heap.size + 1]? = some (.cells #[.slice A3 b.nodes.length c3, .slice A4 b.ties.length c4] 25 (0, 0)) := by
    have := heap_alloc_new (w.alloc (.cells #[.slice A1 a.nodes.length c1, .slice A2 a.ties.length c2] 25)) (.cells #[.slice A3 b.nodes.length c3, .slice A4 b.ties.length c4] 25); rw [hW0]; simpa using this
  have hW0' := hW0.symm
  have hw0 := hb0.size
  have X0 := Lib.hid (block_cell g0 0)
  have X1 := Lib.hid (block_cell g0 1)
  have Y0 := Lib.hid (block_cell g1 0)
  have Y1 := Lib.hid (block_cell g1 1)
  have H1 := Lib.hid (h1.below hb0)
  have H2 := Lib.hid (h2.below hb0)
  have HNN : Hid (¬ a.nodes = b.nodes → decide (a = b) = false) := fun h => decide_eq_false fun e => h (by rw [e])
  have HNT : Hid (¬ a.ties = b.ties → decide (a = b) = false) := fun h => decide_eq_false fun e => h (by rw [e])
  have HEQ : Hid (a.nodes = b.nodes → a.ties = b.ties → decide (a = b) = true) := fun h h' => decide_eq_true (by cases a; cases b; cases h; cases h'; rfl)
  have x0 := X0.out
  have x1 := X1.out
  have y0 := Y0.out
  have y1 := Y1.out
  clear h1 h2 g0 g1 hW0
  generalize decide (a = b) = E at *
  by_cases hl : a.nodes.length = b.nodes.length
  case neg =>
    have HE : Hid (E = false) := HNN.out fun e => hl (by rw [e])
    have hl2 : ((a.nodes.length : Int) != (b.nodes.length : Int)) = true := by rw [bne_iff_ne]; omega
    have hl3 : (a.nodes.length != b.nodes.length) = true := by rw [bne_iff_ne]; omega
    clear hl
    go_enter Tryz.func13, Tryz.ntmps13
    go_wp2_with fail
    go_ret
    exact ⟨by rw [HE.out]; rfl, hb0⟩
  have hl2 : ((a.nodes.length : Int) != (b.nodes.length : Int)) = false := by rw [bne_eq_false_iff_eq]; omega
  have hl3 : (a.nodes.length != b.nodes.length) = false := by rw [bne_eq_false_iff_eq]; omega
  by_cases ht : a.ties.length = b.ties.length
  case neg =>
    have HE : Hid (E = false) := HNT.out fun e => ht (by rw [e])
    have ht2 : ((a.ties.length : Int) != (b.ties.length : Int)) = true := by rw [bne_iff_ne]; omega
    have ht3 : (a.ties.length != b.ties.length) = true := by rw [bne_iff_ne]; omega
    clear hl ht
    go_enter Tryz.func13, Tryz.ntmps13
    go_wp2_with fail
    go_ret
    exact ⟨by rw [HE.out]; rfl, hb0⟩
  have ht2 : ((a.ties.length : Int) != (b.ties.length : Int)) = false := by rw [bne_eq_false_iff_eq]; omega
  have ht3 : (a.ties.length != b.ties.length) = false := by rw [bne_eq_false_iff_eq]; omega
  have HL := Lib.hid hl
  have HT := Lib.hid ht
  clear hl ht
  go_enter Tryz.func13, Tryz.ntmps13
  go_wp2_with fail
  clear hW0' hl2 hl3 ht2 ht3 x1 y1
  go_loopw [5] (fun i wr => ∃ k : Nat, k ≤ a.nodes.length ∧ i = .int .i64 k ∧ Below W0.heap.size W0 wr ∧ Hid (∀ j x y, j < k → a.nodes[j]? = some x → b.nodes[j]? = some y → x = y)) (fun i _ => a.nodes.length - (intOf i).toNat)
  case atStart => exact ⟨0, Nat.zero_le _, rfl, Below.refl _ _, fun j x y hj => absurd hj (Nat.not_lt_zero _)⟩
  case round =>
    clear x0 y0
    obtain ⟨k, hk, rfl, hbr, HA⟩ := hrel
    have x0 := cell_below hbr X0.out
    have hB := hb0.trans (hbr.mono hw0)
    by_cases hlt : k < a.nodes.length
    · have y0 := cell_below hbr Y0.out
      obtain ⟨x, hx⟩ : ∃ d, a.nodes[k]? = some d := ⟨_, List.getElem?_eq_getElem hlt⟩
      obtain ⟨y, hy⟩ : ∃ d, b.nodes[k]? = some d := ⟨_, List.getElem?_eq_getElem (by have := HL.out; omega)⟩
      have hlt' : (k : Int) < (a.nodes.length : Int) := by omega
      have hlt2 : (k : Int) < (b.nodes.length : Int) := by have := HL.out; omega
      obtain ⟨p1, q1, rfl, u1, _, _, hu1, x2, x3, x4⟩ := nod_at (H1.out.below hbr).1 hx
      obtain ⟨p2, q2, rfl, u2, _, _, hu2, y2, y3, y4⟩ := nod_at (H2.out.below hbr).1 hy
      have HNO : Hid (decide (x = y) = false → E = false) := fun h => HNN.out (pair_no hx hy (of_decide_eq_false h))
      have HYES : Hid (decide (x = y) = true → ∀ j x y, j < k + 1 → a.nodes[j]? = some x → b.nodes[j]? = some y → x = y) := fun h => pair_step HA.out hx hy (of_decide_eq_true h)
      have HC : Hid (∀ W, Below wr.heap.size wr W → Calls Tryz.prog 61 #[.agg #[.int .i64 x.id, .string x.kind, u1], .agg #[.int .i64 y.id, .string y.kind, u2]] W fun e w' => e = .returned (.bool (decide (x = y))) ∧ Below W.heap.size W w') := fun W h => snode_any x y _ _ W (hu1.below h) (hu2.below h)
      obtain ⟨B1, d1, rfl, _, _⟩ := hu1.form
      obtain ⟨B2, d2, rfl, _, _⟩ := hu2.form
      clear hx hy hu1 hu2 HA
      generalize decide (x = y) = qq at *
      go_wp2_with fail
      refine wp_mid_k 10 _ rfl rfl (by kernel_rfl) (by kernel_rfl) ?_
      simp only [List.take_succ_cons, List.take_zero, List.drop_succ_cons, List.drop_zero]
      repeat (go_big_quiet_step (fail))
      refine wpQuiet_nil ?_
      intro _ hw'
      obtain ⟨nq, hw''⟩ := hw'
      subst hw''
      intro K hK
      have hbq := below_drewN (Below.refl wr.heap.size wr) nq
      have hc := HC.out (wr.drewN nq) hbq
      clear HC
      go_wp2_with fail
      refine hc.mono ?_
      clear hc
      rintro e w3 ⟨rfl, hb3⟩
      have hb13 := hbq.trans hb3
      refine hK _ _ ?_
      repeat (go_big_quiet_step (fail))
      refine wpQuiet_nil ?_
      intro _ hw'
      obtain ⟨nq2, hw''⟩ := hw'
      subst hw''
      clear hK
      have hbX := below_drewN hb13 nq2
      generalize w3.drewN nq2 = w4 at *
      have hb4 := hbr.trans (hbX.mono hbr.size)
      have hB4 := hB.trans (hbX.mono hB.size)
      clear hbq hb3 hb13 hbX x0 y0 x2 x3 x4 y2 y3 y4
      cases qq with
      | false =>
        have HE : Hid (E = false) := HNO.out rfl
        clear HNO HYES
        go_wp2_with fail
        go_ret
        exact ⟨by rw [HE.out]; rfl, hB4⟩
      | true =>
        have HS := Lib.hid (HYES.out rfl)
        clear HNO HYES
        go_wp2_with fail
        go_roundw
        case rel => exact ⟨k + 1, by omega, by go_num, hb4, HS⟩
        case measure => simp [intOf]; omega
    · obtain rfl : k = a.nodes.length := by omega
      have HEN : Hid (a.nodes = b.nodes) := lists_eq HL.out HA.out
      have x1 := cell_below hbr X1.out
      clear hlt hk HA
      obtain ⟨wo, rfl⟩ : ∃ wo : World, wo = wr := ⟨_, rfl⟩
      go_wp2_with fail
      go_loopw [7] (fun i wr => ∃ k : Nat, k ≤ a.ties.length ∧ i = .int .i64 k ∧ Below W0.heap.size W0 wr ∧ Hid (∀ j x y, j < k → a.ties[j]? = some x → b.ties[j]? = some y → x = y)) (fun i _ => a.ties.length - (intOf i).toNat)
      case atStart => exact ⟨0, Nat.zero_le _, rfl, hbr, fun j x y hj => absurd hj (Nat.not_lt_zero _)⟩
      case round =>
        clear x0 x1 hbr hB
        obtain ⟨k, hk, rfl, hbr, HA⟩ := hrel
        have x1 := cell_below hbr X1.out
        have hB := hb0.trans (hbr.mono hw0)
        by_cases hlt : k < a.ties.length
        · have y1 := cell_below hbr Y1.out
          obtain ⟨x, hx⟩ : ∃ d, a.ties[k]? = some d := ⟨_, List.getElem?_eq_getElem hlt⟩
          obtain ⟨y, hy⟩ : ∃ d, b.ties[k]? = some d := ⟨_, List.getElem?_eq_getElem (by have := HT.out; omega)⟩
          have hlt' : (k : Int) < (a.ties.length : Int) := by omega
          have hlt2 : (k : Int) < (b.ties.length : Int) := by have := HT.out; omega
          obtain ⟨p1, q1, rfl, _, x2, x3, x4⟩ := tie_at (H1.out.below hbr).2 hx
          obtain ⟨p2, q2, rfl, _, y2, y3, y4⟩ := tie_at (H2.out.below hbr).2 hy
          have hneq := tie_neq x y
          have hgd := tie_guard
          by_cases hq : x = y
          · have HS := Lib.hid (pair_step HA.out hx hy hq)
            rw [decide_eq_true hq] at hneq
            clear hx hy hq HA
            go_wp2_with fail
            go_quiet (fail)
            go_wp2_with fail
            go_roundw
            case rel => exact ⟨k + 1, by omega, by go_num, below_drewN hbr _, HS⟩
            case measure => simp [intOf]; omega
          · have HE : Hid (E = false) := HNT.out (pair_no hx hy hq)
            rw [decide_eq_false hq] at hneq
            clear hx hy hq HA
            go_wp2_with fail
            go_quiet (fail)
            go_wp2_with fail
            go_ret
            exact ⟨by rw [HE.out]; rfl, below_drewN hB _⟩
        · obtain rfl : k = a.ties.length := by omega
          have HE : Hid (E = true) := HEQ.out HEN.out (lists_eq HT.out HA.out)
          clear HA
          go_wp2_with fail
          go_ret
          exact ⟨by rw [HE.out]; rfl, hB⟩
open Go.RowKit Go.Extern.Stop Go.Stop Go.Extern

/-! ### CLOSED FACTS ON THE MODEL's ENTRIES FOR internal/reflectlite, at this program's types: 25: *p.E · 27: **p.E · 23: error · 45: reflectlite's rtype · 1: how many package-level variables the dump has -/
theorem as_valueOfP (t : Addr) (w : World) : (ReflectliteValue.unpack (.iface 189 (.pointer (some t)))).run Tryz.prog w
    = .ok (.agg #[.pointer (some ⟨11, 189, none⟩), .pointer (some ⟨w.heap.size, 0, none⟩), .int .u64 150]) (w.alloc (.cells #[.pointer (some t)] 189)) := by kernel_rfl
theorem as_typeP (a : Addr) (w : World) : (ReflectliteValue.methodAny (ReflectliteValue.valueError "reflectlite.Value.Type" 0) (fun t _ _ _ => ReflectliteType.toType t) #[.agg #[.pointer (some ⟨11, 189, none⟩), .pointer (some a), .int .u64 150]]).run Tryz.prog w
    = .ok (.iface 279 (.agg #[.pointer (some ⟨11, 189, none⟩)])) w := by kernel_rfl
theorem as_methodKind (h : Value) (w : World) : (Go.method 469 279 (.agg #[h]) "Kind").run Tryz.prog w = .ok (268, h) w := by kernel_rfl
theorem as_kindP (w : World) : ((ReflectliteType.abiMethod fun t => (fun a : Nat => Value.int IntKind.u8 (a : Int)) <$> Rtype.kind t) #[.pointer (some ⟨11, 189, none⟩)]).run Tryz.prog w = .ok (.int .u8 22) w := by kernel_rfl
theorem as_kindE (w : World) : ((ReflectliteType.abiMethod fun t => (fun a : Nat => Value.int IntKind.u8 (a : Int)) <$> Rtype.kind t) #[.pointer (some ⟨11, 115, none⟩)]).run Tryz.prog w = .ok (.int .u8 2) w := by kernel_rfl

/-! ### THE ENTRIES THAT READ OR WRITE MEMORY: laws with a premise on the cell (after Derived/Lib/ReflectliteSlice.lean's manner: each unfolding a lemma of its own, by rfl) -/
theorem rlm (z : Sem Value) (f : TypeId → Addr → Nat → Nat → Sem Value) (v : Value) :
    ReflectliteValue.method z f #[v] = (do match ← ReflectliteValue.parts v with | none => z | some (t, a, fl) => f t a fl (fl % 32)) := rfl
theorem as_partsP (a : Addr) (w : World) : (ReflectliteValue.parts (.agg #[.pointer (some ⟨11, 189, none⟩), .pointer (some a), .int .u64 150])).run Tryz.prog w = .ok (some (189, a, 150)) w := by kernel_rfl
/-- (Value).IsNil at the Value of a **p.E that is not nil. -/
theorem as_isNilP (a p : Addr) (W : World) (ha : W.cell? a = some (.pointer (some p))) :
    (ReflectliteValue.method (ReflectliteValue.valueError "reflectlite.Value.IsNil" 0) ReflectliteValue.isNil #[.agg #[.pointer (some ⟨11, 189, none⟩), .pointer (some a), .int .u64 150]]).run Tryz.prog W = .ok (.bool false) W := by
  rw [rlm]
  simp only [Sem.run_bind, as_partsP, Result.andThen]
  simp [ReflectliteValue.isNil, loadVar, isAgg, underlying, Tryz.underlying189, ha, Result.andThen]

theorem as_methodElem (h : Value) (w : World) : (Go.method 469 279 (.agg #[h]) "Elem").run Tryz.prog w = .ok (279, .agg #[h]) w := by kernel_rfl
theorem as_methodImplements (h : Value) (w : World) : (Go.method 469 279 (.agg #[h]) "Implements").run Tryz.prog w = .ok (280, .agg #[h]) w := by kernel_rfl
theorem as_methodAssignableTo (h : Value) (w : World) : (Go.method 469 279 (.agg #[h]) "AssignableTo").run Tryz.prog w = .ok (277, .agg #[h]) w := by kernel_rfl
theorem as_elemP (w : World) : (ReflectliteType.method ReflectliteType.elem #[.agg #[.pointer (some ⟨11, 189, none⟩)]]).run Tryz.prog w = .ok (.iface 279 (.agg #[.pointer (some ⟨11, 115, none⟩)])) w := by kernel_rfl
theorem as_implementsE (w : World) : (ReflectliteType.relation "Implements" ReflectliteType.implements_ #[.agg #[.pointer (some ⟨11, 115, none⟩)], .iface 279 (.agg #[.pointer (some ⟨11, 29, none⟩)])]).run Tryz.prog w = .ok (.bool true) w := by kernel_rfl
theorem as_typeOfE (v : Value) (w : World) : (ReflectliteType.typeOf #[.iface 115 v]).run Tryz.prog w = .ok (.iface 279 (.agg #[.pointer (some ⟨11, 115, none⟩)])) w := by kernel_rfl
theorem as_assignableE (w : World) : (ReflectliteType.relation "AssignableTo" ReflectliteType.assignableTo #[.agg #[.pointer (some ⟨11, 115, none⟩)], .iface 279 (.agg #[.pointer (some ⟨11, 115, none⟩)])]).run Tryz.prog w = .ok (.bool true) w := by kernel_rfl
theorem as_valueOfE (e : Int) (w : World) : (ReflectliteValue.unpack (.iface 115 (.int .i64 e))).run Tryz.prog w
    = .ok (.agg #[.pointer (some ⟨11, 115, none⟩), .pointer (some ⟨w.heap.size, 0, none⟩), .int .u64 130]) (w.alloc (.cells #[.int .i64 e] 115)) := by kernel_rfl

theorem as_elemOfP (w : World) : (Rtype.elem? 189).run Tryz.prog w = .ok (some 115) w := by kernel_rfl
theorem as_mkE (p : Addr) (w : World) : (ReflectliteValue.mk 115 p ReflectliteValue.flagAddr).run Tryz.prog w = .ok (.agg #[.pointer (some ⟨11, 115, none⟩), .pointer (some p), .int .u64 386]) w := by kernel_rfl
/-- (Value).Elem at the Value of a **p.E that is not nil: the Value of the *p.E variable that it points to, addressable. -/
theorem as_elemVP (a p : Addr) (W : World) (ha : W.cell? a = some (.pointer (some p))) :
    (ReflectliteValue.method (ReflectliteValue.valueError "reflectlite.Value.Elem" 0) ReflectliteValue.elem #[.agg #[.pointer (some ⟨11, 189, none⟩), .pointer (some a), .int .u64 150]]).run Tryz.prog W
      = .ok (.agg #[.pointer (some ⟨11, 115, none⟩), .pointer (some p), .int .u64 386]) W := by
  rw [rlm]
  simp only [Sem.run_bind, as_partsP, Result.andThen]
  simp [ReflectliteValue.elem, loadVar, isAgg, underlying, Tryz.underlying189, ha, Result.andThen, as_elemOfP, as_mkE]
theorem rls (v x : Value) : ReflectliteValue.set #[v, x] = (do
    let (some (dst, a, fl), some (src, b, _)) := (← ReflectliteValue.parts v, ← ReflectliteValue.parts x)
      | unsupported (.noEntry "extern/(internal/reflectlite.Value).Set.zeroValue")
    if fl / ReflectliteValue.flagAddr % 2 == 0 then unsupported (.noEntry "extern/(internal/reflectlite.Value).Set.unaddressable")
    let val ← loadVar src b
    if ← Rtype.directlyAssignable dst src then storeVar dst a val
    else if ← Rtype.implements dst src then
      if (← Rtype.kind src) == 20 then
        match val with
        | .nilIface => unsupported (.noEntry "extern/reflectlite: a nil value of one interface type handed on as a value of another")
        | _ => storeVar dst a val
      else storeVar dst a (.iface src val)
    else panicString ("reflectlite.Set: value of type " ++ (← Rtype.spelt src) ++ " is not assignable to type " ++ (← Rtype.spelt dst))
    pure (.tuple #[])) := rfl
theorem as_partsEa (a : Addr) (w : World) : (ReflectliteValue.parts (.agg #[.pointer (some ⟨11, 115, none⟩), .pointer (some a), .int .u64 386])).run Tryz.prog w = .ok (some (115, a, 386)) w := by kernel_rfl
theorem as_partsE (a : Addr) (w : World) : (ReflectliteValue.parts (.agg #[.pointer (some ⟨11, 115, none⟩), .pointer (some a), .int .u64 130])).run Tryz.prog w = .ok (some (115, a, 130)) w := by kernel_rfl
theorem as_directE (w : World) : (Rtype.directlyAssignable 115 115).run Tryz.prog w = .ok true w := by kernel_rfl
/-- (Value).Set: the *p.E variable at 'ta' gets what the Value's own variable 'b' holds. -/
theorem as_setE (ta b : Addr) (e : Int) (old : Value) (W : World) (hb : W.cell? b = some (.int .i64 e)) (ht : W.cell? ta = some old) (hf : W.frozen? ta = false) :
    (ReflectliteValue.set #[.agg #[.pointer (some ⟨11, 115, none⟩), .pointer (some ta), .int .u64 386], .agg #[.pointer (some ⟨11, 115, none⟩), .pointer (some b), .int .u64 130]]).run Tryz.prog W
      = .ok (.tuple #[]) (W.setCell ta (.int .i64 e)) := by
  rw [rls]
  simp only [Sem.run_bind, as_partsEa, as_partsE, Result.andThen]
  simp [ReflectliteValue.flagAddr, loadVar, isAgg, underlying, Tryz.underlying115, hb, Result.andThen, as_directE, storeVar, Value.cells, storeCells, Addr.add]
  rw [run_store Tryz.prog W ta _ _ (by rfl)]
  simp [ht, hf]

set_option maxRecDepth 100000 in
set_option maxHeartbeats 4000000 in
theorem as_hit (e : Int) (t : Addr) (old : Value) (w : World) (hg : w.cell? ⟨2, 0, none⟩ = some (.iface 279 (.agg #[.pointer (some ⟨11, 29, none⟩)]))) (ht0 : w.cell? t = some old) (hf0 : w.frozen? t = false) :
    Calls Tryz.prog 102 #[.iface 115 (.int .i64 e), .iface 189 (.pointer (some t))] w fun ev w' => ev = .returned (.bool true) ∧ w' = ((((w.alloc (.cells #[.pointer (some t)] 189)).alloc (.cells #[.pointer (some ⟨11, 189, none⟩), .pointer (some ⟨w.heap.size, 0, none⟩), .int .u64 150] 233)).alloc (.cells #[.pointer (some ⟨11, 189, none⟩), .pointer (some ⟨w.heap.size, 0, none⟩), .int .u64 150] 233)).alloc (.cells #[.int .i64 e] 115)).setCell t (.int .i64 e) := by
  have h6 := @run_callFunc_extern Tryz.prog 153 _ (fun args => ReflectliteValue.unpack (args.getD 0 (.tuple #[]))) Tryz.func153 (by kernel_rfl) (by kernel_rfl) (by kernel_rfl) (by kernel_rfl)
  have h7 := @run_callFunc_extern Tryz.prog 154 _ (ReflectliteValue.methodAny (ReflectliteValue.valueError "reflectlite.Value.Type" 0) (fun t _ _ _ => ReflectliteType.toType t)) Tryz.func154 (by kernel_rfl) (by kernel_rfl) (by kernel_rfl) (by kernel_rfl)
  have h8 := @run_callFunc_extern Tryz.prog 155 _ (ReflectliteValue.method (ReflectliteValue.valueError "reflectlite.Value.IsNil" 0) ReflectliteValue.isNil) Tryz.func155 (by kernel_rfl) (by kernel_rfl) (by kernel_rfl) (by kernel_rfl)
  have h27 := @run_callFunc_extern Tryz.prog 268 _ (ReflectliteType.abiMethod fun t => do pure (.int .u8 (← Rtype.kind t))) Tryz.func268 (by kernel_rfl) (by kernel_rfl) (by kernel_rfl) (by kernel_rfl)
  have h37 := @run_callFunc_extern Tryz.prog 279 _ (ReflectliteType.method ReflectliteType.elem) Tryz.func279 (by kernel_rfl) (by kernel_rfl) (by kernel_rfl) (by kernel_rfl)
  have h38 := @run_callFunc_extern Tryz.prog 280 _ (ReflectliteType.relation "Implements" ReflectliteType.implements_) Tryz.func280 (by kernel_rfl) (by kernel_rfl) (by kernel_rfl) (by kernel_rfl)
  have h10 := @run_callFunc_extern Tryz.prog 199 _ ReflectliteType.typeOf Tryz.func199 (by kernel_rfl) (by kernel_rfl) (by kernel_rfl) (by kernel_rfl)
  have h35 := @run_callFunc_extern Tryz.prog 277 _ (ReflectliteType.relation "AssignableTo" ReflectliteType.assignableTo) Tryz.func277 (by kernel_rfl) (by kernel_rfl) (by kernel_rfl) (by kernel_rfl)
  have h11 := @run_callFunc_extern Tryz.prog 200 _ (ReflectliteValue.method (ReflectliteValue.valueError "reflectlite.Value.Elem" 0) ReflectliteValue.elem) Tryz.func200 (by kernel_rfl) (by kernel_rfl) (by kernel_rfl) (by kernel_rfl)
  have h12 := @run_callFunc_extern Tryz.prog 201 _ ReflectliteValue.set Tryz.func201 (by kernel_rfl) (by kernel_rfl) (by kernel_rfl) (by kernel_rfl)
  have tO := as_typeOfE
  have mA := as_methodAssignableTo
  have a25 := as_assignableE
  have v25 := as_valueOfE
  have f6 := as_valueOfP
  have f7 := as_typeP
  have mK := as_methodKind
  have mE := as_methodElem
  have mI := as_methodImplements
  have k27 := as_kindP
  have k25 := as_kindE
  have e27 := as_elemP
  have i25 := as_implementsE
  have n8 := as_isNilP ⟨w.heap.size, 0, none⟩ t ((w.alloc (.cells #[.pointer (some t)] 189)).alloc (.cells #[.pointer (some ⟨11, 189, none⟩), .pointer (some ⟨w.heap.size, 0, none⟩), .int .u64 150] 233)) (by simp)
  have hlt : 2 < w.heap.size := World.block_lt_of_cell? _ _ hg
  have hg2 : ((w.alloc (.cells #[.pointer (some t)] 189)).alloc (.cells #[.pointer (some ⟨11, 189, none⟩), .pointer (some ⟨w.heap.size, 0, none⟩), .int .u64 150] 233)).cell? ⟨2, 0, none⟩ = some (.iface 279 (.agg #[.pointer (some ⟨11, 29, none⟩)])) := by
    rw [World.cell?_alloc_lt _ _ ⟨2, 0, none⟩ (by simp only [World.size_alloc]; omega), World.cell?_alloc_lt _ _ ⟨2, 0, none⟩ hlt]; exact hg
  have htl : t.block < w.heap.size := by
    rcases Nat.lt_or_ge t.block w.heap.size with h | h
    · exact h
    · simp [World.cell?, Array.getElem?_eq_none h] at ht0
  have el := as_elemVP ⟨w.heap.size, 0, none⟩ t (((w.alloc (.cells #[.pointer (some t)] 189)).alloc (.cells #[.pointer (some ⟨11, 189, none⟩), .pointer (some ⟨w.heap.size, 0, none⟩), .int .u64 150] 233)).alloc (.cells #[.pointer (some ⟨11, 189, none⟩), .pointer (some ⟨w.heap.size, 0, none⟩), .int .u64 150] 233)) (by rw [World.cell?_alloc_lt _ _ ⟨w.heap.size, 0, none⟩ (by simp; omega)]; simp)
  have st := as_setE t ⟨w.heap.size + 1 + 1 + 1, 0, none⟩ e old ((((w.alloc (.cells #[.pointer (some t)] 189)).alloc (.cells #[.pointer (some ⟨11, 189, none⟩), .pointer (some ⟨w.heap.size, 0, none⟩), .int .u64 150] 233)).alloc (.cells #[.pointer (some ⟨11, 189, none⟩), .pointer (some ⟨w.heap.size, 0, none⟩), .int .u64 150] 233)).alloc (.cells #[.int .i64 e] 115))
    (by rw [World.cell?_alloc_at _ _ _ _ (by simp)]; rfl)
    (by rw [World.cell?_alloc_lt _ _ t (by simp; omega), World.cell?_alloc_lt _ _ t (by simp; omega), World.cell?_alloc_lt _ _ t (by simp; omega), World.cell?_alloc_lt _ _ t htl]; exact ht0)
    (by rw [World.frozen?_alloc_old _ _ t (by simp; omega), World.frozen?_alloc_old _ _ t (by simp; omega), World.frozen?_alloc_old _ _ t (by simp; omega), World.frozen?_alloc_old _ _ t (Nat.ne_of_lt htl)]; exact hf0)
  go_enter Tryz.func102, Tryz.ntmps102
  go_wp2
  refine wp_loop_rounds 1 ?_
  rw [rounds_succ]
  go_wp2
  go_ret
  exact ⟨rfl, rfl⟩
end Go.Proofs.YtflidfmpmakggaaGreatDoor
