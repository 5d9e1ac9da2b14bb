/- Parts: GtA, GtB, TBac. -/
import Derived.Test.YtmbeeaohidgfgaaGreatDoorMg22
import Derived.Test.YtmbeeaohidgfgaaGreatDoorMg10
import Derived.Test.YtmbeeaohidgfgaaGreatDoorMg20
import Derived.Deep.DeepCutAuto
/- Contracts: kinsame.Ints, Record, Node, Graph: whether two are the same. No condition. -/
namespace Go.Proofs.YtmbeeaohidgfgaaGreatDoor
open Go Go.RowKit



theorem prp_guard (op : BinOp) (a b : Operand) (xs ys : Array Value) (w : World) : (eqGuard op 27 a b (.agg xs) (.agg ys)).run Tryz.prog w = .ok () w := run_eqGuard_agg w op 27 a b xs ys (by kernel_rfl)
theorem tie_guard (op : BinOp) (a b : Operand) (xs ys : Array Value) (w : World) : (eqGuard op 109 a b (.agg xs) (.agg ys)).run Tryz.prog w = .ok () w := run_eqGuard_agg w op 109 a b xs ys (by kernel_rfl)
theorem pval_same (d : Nat) (x y : Val) (w : World) : (Op.equalIn (d + 2) 25 (.agg #[.int .i64 x.ty, .int .i64 x.n, .string x.s]) (.agg #[.int .i64 y.ty, .int .i64 y.n, .string y.s])).run Tryz.prog w = .ok (decide (x = y)) w := by
  have hS : Tryz.prog.underlying 25 = some (.struct (Tryz.prog.fieldsOf 25)) := by kernel_rfl
  have hp : Tryz.prog.stoodInHeld 25 = false := by kernel_rfl
  have e1 := Tryz.underlying9
  have e2 := Tryz.underlying3
  rw [run_equalIn_agg w (d + 1) 25 _ _ hS hp]
  simp only [Program.fieldsOf, Tryz.underlying25]
  go_simp
  simp only [bytes_eq]
  cases x; cases y
  simp only [Val.mk.injEq]
  rename_i a b c a' b' c'
  by_cases h1 : a = a' <;> by_cases h2 : b = b' <;> by_cases h3 : c = c' <;> simp [h1, h2, h3]
set_option maxRecDepth 100000 in
theorem prp_same (d : Nat) (x y : Prp) (w : World) : (Op.equalIn (d + 3) 27 (.agg #[.string x.name, .int .i64 x.v.ty, .int .i64 x.v.n, .string x.v.s]) (.agg #[.string y.name, .int .i64 y.v.ty, .int .i64 y.v.n, .string y.v.s])).run Tryz.prog w = .ok (decide (x = y)) w := by
  have hS : Tryz.prog.underlying 27 = some (.struct (Tryz.prog.fieldsOf 27)) := by kernel_rfl
  have hp : Tryz.prog.stoodInHeld 27 = false := by kernel_rfl
  have hv := pval_same d x.v y.v w
  have e1 := Tryz.underlying9
  have e2 := Tryz.underlying3
  have e3 := Tryz.underlying25
  have HV := Lib.hid hv
  clear hv
  rw [run_equalIn_agg w (d + 2) 27 _ _ hS hp]
  simp only [Program.fieldsOf, Tryz.underlying27]
  clear hS hp
  go_simp
  clear HV
  simp only [bytes_eq]
  cases x with | mk f v => cases y with | mk f' v' =>
  cases v; cases v'
  simp only [Prp.mk.injEq, Val.mk.injEq]
  rename_i a b c a' b' c'
  by_cases h0 : f = f' <;> by_cases h1 : a = a' <;> by_cases h2 : b = b' <;> by_cases h3 : c = c' <;> simp [h0, h1, h2, h3]
theorem prp_neq (x y : Prp) (w : World) : (binOp .neq 27 (.agg #[.string x.name, .int .i64 x.v.ty, .int .i64 x.v.n, .string x.v.s]) (.agg #[.string y.name, .int .i64 y.v.ty, .int .i64 y.v.n, .string y.v.s])).run Tryz.prog w = .ok (.bool (!decide (x = y))) w := by
  rw [run_neq_struct, show (10000 : Nat) = 9997 + 3 from rfl, prp_same]; rfl
theorem tie_same (d : Nat) (x y : Tie) (w : World) : (Op.equalIn (d + 2) 109 (.agg #[.string x.bond, .int .i64 x.src, .int .i64 x.dst]) (.agg #[.string y.bond, .int .i64 y.src, .int .i64 y.dst])).run Tryz.prog w = .ok (decide (x = y)) w := by
  have hS : Tryz.prog.underlying 109 = some (.struct (Tryz.prog.fieldsOf 109)) := by kernel_rfl
  have hp : Tryz.prog.stoodInHeld 109 = false := by kernel_rfl
  have e1 := Tryz.underlying9
  have e2 := Tryz.underlying3
  rw [run_equalIn_agg w (d + 1) 109 _ _ hS hp]
  simp only [Program.fieldsOf, Tryz.underlying109]
  go_simp
  simp only [bytes_eq]
  cases x; cases y
  simp only [Tie.mk.injEq]
  rename_i a b c a' b' c'
  by_cases h1 : a = a' <;> by_cases h2 : b = b' <;> by_cases h3 : c = c' <;> simp [h1, h2, h3]
theorem tie_neq (x y : Tie) (w : World) : (binOp .neq 109 (.agg #[.string x.bond, .int .i64 x.src, .int .i64 x.dst]) (.agg #[.string y.bond, .int .i64 y.src, .int .i64 y.dst])).run Tryz.prog w = .ok (.bool (!decide (x = y))) w := by
  rw [run_neq_struct, show (10000 : Nat) = 9998 + 2 from rfl, tie_same]; rfl
set_option maxHeartbeats 1000000 in
theorem srecord_any_q (a b : List Prp) (va vb : Value) (w : World) (ha : Sl prpL w va a) (hb : Sl prpL w vb b) : Calls Tryz.prog 9 #[va, vb] w fun e w' => e = .returned (.bool (decide (a = b))) ∧ ∃ m, w' = w.drewN m := by
  obtain ⟨A, c, rfl, _, hcm⟩ := ha.form
  obtain ⟨B, d, rfl, _, hdm⟩ := hb.form
  unfold maxLen at hcm hdm
  by_cases hl : a.length = b.length
  case neg =>
    have HE : Hid (decide (a = b) = false) := decide_eq_false fun e => hl (by rw [e])
    have hl' : decide ((a.length : Int) = (b.length : Int)) = false := decide_eq_false (by omega)
    have hl2 : ((a.length : Int) == (b.length : Int)) = false := by rw [beq_eq_false_iff_ne]; omega
    clear ha hb hl
    go_enter Tryz.func9, Tryz.ntmps9
    go_wp2_with fail
    go_ret
    exact ⟨by rw [HE.out]; rfl, 0, rfl⟩
  have HL := Lib.hid hl
  have hlb : a.length ≤ b.length := by omega
  rw [← hl]
  clear hl
  go_enter Tryz.func9, Tryz.ntmps9
  go_wp2_with fail
  go_loopw [5] (fun i wr => ∃ k : Nat, k ≤ a.length ∧ i = .int .i64 k ∧ Below w.heap.size w wr ∧ Hid (∃ m, wr = w.drewN m) ∧ Hid (∀ j x y, j < k → a[j]? = some x → b[j]? = some y → x = y)) (fun i _ => a.length - (intOf i).toNat)
  case atStart => exact ⟨0, Nat.zero_le _, rfl, Below.refl _ _, ⟨0, rfl⟩, fun j x y hj => absurd hj (Nat.not_lt_zero _)⟩
  case round =>
    obtain ⟨k, hk, rfl, hbr, HM, HA⟩ := hrel
    by_cases hlt : k < a.length
    · obtain ⟨x, hx⟩ : ∃ d, a[k]? = some d := ⟨_, List.getElem?_eq_getElem hlt⟩
      obtain ⟨y, hy⟩ : ∃ d, b[k]? = some d := ⟨_, List.getElem?_eq_getElem (by omega)⟩
      have hlt' : (k : Int) < (a.length : Int) := by omega
      obtain ⟨b1, o1, rfl, _, x0, x1, x2, x3⟩ := prp_at (ha.below hbr) hx
      obtain ⟨b2, o2, rfl, _, y0, y1, y2, y3⟩ := prp_at (hb.below hbr) hy
      have hneq := prp_neq x y
      have hgd := prp_guard
      have HX := Lib.hid hx
      have HY := Lib.hid hy
      clear hx hy
      by_cases hq : x = y
      · have HS : Hid (∀ j x y, j < k + 1 → a[j]? = some x → b[j]? = some y → x = y) := fun j p q hj hp hq2 => by
          by_cases hjk : j = k
          · subst hjk
            have e1 := HX.out.symm.trans hp
            have e2 := HY.out.symm.trans hq2
            injection e1 with e1; injection e2 with e2
            rw [← e1, ← e2]; exact hq
          · exact HA.out j p q (by omega) hp hq2
        rw [decide_eq_true hq] at hneq
        clear ha hb hq
        go_wp2_with fail
        go_quiet (fail)
        go_wp2_with fail
        go_roundw
        case rel => exact ⟨k + 1, by omega, by go_num, below_drewN hbr _, drewN_step HM.out nq, HS⟩
        case measure => simp [intOf]; omega
      · have HE : Hid (decide (a = b) = false) := decide_eq_false fun e => by
          have e1 := HX.out
          rw [e, HY.out] at e1
          injection e1 with e1
          exact hq e1.symm
        rw [decide_eq_false hq] at hneq
        clear ha hb hq
        go_wp2_with fail
        go_quiet (fail)
        go_wp2_with fail
        go_ret
        exact ⟨by rw [HE.out]; rfl, drewN_step HM.out nq⟩
    · obtain rfl : k = a.length := by omega
      have HE : Hid (decide (a = b) = true) := decide_eq_true (lists_eq HL.out HA.out)
      clear ha hb
      go_wp2_with fail
      go_ret
      exact ⟨by rw [HE.out]; rfl, HM.out⟩
theorem srecord_any (a b : List Prp) (va vb : Value) (w : World) (ha : Sl prpL w va a) (hb : Sl prpL w vb b) : Calls Tryz.prog 9 #[va, vb] w fun e w' => e = .returned (.bool (decide (a = b))) ∧ Below w.heap.size w w' :=
  (srecord_any_q a b va vb w ha hb).mono fun _ _ ⟨h, m, hm⟩ => ⟨h, by rw [hm]; exact below_drewN (Below.refl _ _) m⟩
/-! ### Two nodes -/

theorem nod_eqB (a b : Nod) : decide (a = b) = (decide (a.props = b.props) && decide (a.id = b.id) && decide (a.kind = b.kind)) := by
  cases a; cases b
  simp only [Nod.mk.injEq]
  rename_i i k p i' k' p'
  by_cases h1 : i = i' <;> by_cases h2 : k = k' <;> by_cases h3 : p = p' <;> simp [h1, h2, h3]
set_option maxHeartbeats 2000000 in
theorem snode_any (a b : Nod) (u1 u2 : Value) (w : World) (f1 : Sl prpL w u1 a.props) (f2 : Sl prpL w u2 b.props) :
    Calls Tryz.prog 45 #[.agg #[.int .i64 a.id, .string a.kind, u1], .agg #[.int .i64 b.id, .string b.kind, u2]] w fun e w' => e = .returned (.bool (decide (a = b))) ∧ Below w.heap.size w w' := by
  obtain ⟨A1, c1, rfl, _, _⟩ := f1.form
  obtain ⟨A2, c2, rfl, _, _⟩ := f2.form
  obtain ⟨W0, hW0⟩ : ∃ W0, W0 = (w.alloc (.cells #[.int .i64 a.id, .string a.kind, .slice A1 a.props.length c1] 66)).alloc (.cells #[.int .i64 b.id, .string b.kind, .slice A2 b.props.length c2] 66) := ⟨_, rfl⟩
  have hb0 : Below w.heap.size w W0 := by rw [hW0]; exact ((Below.refl _ _).alloc (Nat.le_refl _) _).alloc (by simp) _
  have g0 : W0.heap[w.heap.size]? = some (.cells #[.int .i64 a.id, .string a.kind, .slice A1 a.props.length c1] 66 (0, 0)) := by
    rw [hW0, Below.heap_alloc _ _ _ (by simp)]; exact heap_alloc_new _ _
  have g1 : W0.heap[w.heap.size + 1]? = some (.cells #[.int .i64 b.id, .string b.kind, .slice A2 b.props.length c2] 66 (0, 0)) := by
    have := heap_alloc_new (w.alloc (.cells #[.int .i64 a.id, .string a.kind, .slice A1 a.props.length c1] 66)) (.cells #[.int .i64 b.id, .string b.kind, .slice A2 b.props.length c2] 66); rw [hW0]; simpa using this
  have hW0' := hW0.symm
  have hw0 := hb0.size
  have x0 := block_cell g0 0
  have x1 := block_cell g0 1
  have x2 := block_cell g0 2
  have y0 := block_cell g1 0
  have y1 := block_cell g1 1
  have y2 := block_cell g1 2
  have hr := srecord_any a.props b.props _ _ W0 (f1.below hb0) (f2.below hb0)
  have HF := Lib.hid (nod_eqB a b)
  have hkb : (a.kind.toList == b.kind.toList) = decide (a.kind = b.kind) := bytes_beq a.kind b.kind
  clear f1 f2 g0 g1 hW0
  generalize decide (a.props = b.props) = q at *
  generalize decide (a = b) = E at *
  go_enter Tryz.func45, Tryz.ntmps45
  go_wp2_with fail
  clear hW0'
  refine hr.mono ?_
  clear hr
  rintro e w1 ⟨rfl, hb1⟩
  have x0 := cell_below hb1 x0
  have x1 := cell_below hb1 x1
  have y0 := cell_below hb1 y0
  have y1 := cell_below hb1 y1
  have hBX := hb0.trans (hb1.mono hw0)
  clear x2 y2 hb1 hb0
  cases q with
  | false =>
    have HE : Hid (E = false) := by unfold Hid; rw [HF.out]; rfl
    clear HF
    go_wp2_with fail
    go_ret
    exact ⟨by rw [HE.out]; rfl, hBX⟩
  | true =>
    by_cases h1 : a.id = b.id
    case neg =>
      have HE : Hid (E = false) := by unfold Hid; rw [HF.out, decide_eq_false h1]; rfl
      have h1b : (a.id == b.id) = false := by rw [beq_eq_false_iff_ne]; exact h1
      clear HF h1
      go_wp2_with fail
      go_ret
      exact ⟨by rw [HE.out]; rfl, hBX⟩
    have h1b : (a.id == b.id) = true := by rw [beq_iff_eq]; exact h1
    by_cases h2 : a.kind = b.kind
    · have HE : Hid (E = true) := by unfold Hid; rw [HF.out, decide_eq_true h1, decide_eq_true h2]; rfl
      rw [decide_eq_true h2] at hkb
      have hkc : a.kind.toList = b.kind.toList := by rw [h2]
      clear HF h1 h2
      go_wp2_with fail
      go_ret
      exact ⟨by rw [HE.out]; rfl, hBX⟩
    · have HE : Hid (E = false) := by unfold Hid; rw [HF.out, decide_eq_true h1, decide_eq_false h2]; rfl
      rw [decide_eq_false h2] at hkb
      have hkc : ¬ a.kind.toList = b.kind.toList := by rw [bytes_eq]; exact h2
      clear HF h1 h2
      go_wp2_with fail
      go_ret
      exact ⟨by rw [HE.out]; rfl, hBX⟩



theorem pair_step {D : Type} {a b : List D} {k : Nat} {x y : D} (h : ∀ j x y, j < k → a[j]? = some x → b[j]? = some y → x = y) (hx : a[k]? = some x) (hy : b[k]? = some y) (hq : x = y) : ∀ j x y, j < k + 1 → a[j]? = some x → b[j]? = some y → x = y := fun j p q hj hp hq2 => by
  by_cases hjk : j = k
  · subst hjk
    have e1 := hx.symm.trans hp
    have e2 := hy.symm.trans hq2
    injection e1 with e1; injection e2 with e2
    rw [← e1, ← e2]; exact hq
  · exact h j p q (by omega) hp hq2
theorem pair_no {D : Type} {a b : List D} {k : Nat} {x y : D} (hx : a[k]? = some x) (hy : b[k]? = some y) (hq : ¬ x = y) : ¬ a = b := fun e => by
  rw [e, hy] at hx
  injection hx with e1
  exact hq e1.symm
set_option maxRecDepth 100000 in
set_option maxHeartbeats 8000000 in
theorem sgraph_any (a b : Grf) (k1 b1 k2 b2 : Value) (w : World) (h1 : GrfR w k1 b1 a) (h2 : GrfR w k2 b2 b) :
    Calls Tryz.prog 19 #[.agg #[k1, b1], .agg #[k2, b2]] w fun e w' => e = .returned (.bool (decide (a = b))) ∧ Below w.heap.size w w' := by
  obtain ⟨A1, c1, rfl, _, hm1⟩ := h1.1.form
  obtain ⟨A2, c2, rfl, _, hm2⟩ := h1.2.form
  obtain ⟨A3, c3, rfl, _, hm3⟩ := h2.1.form
  obtain ⟨A4, c4, rfl, _, hm4⟩ := h2.2.form
  unfold maxLen at hm1 hm2 hm3 hm4
  obtain ⟨W0, hW0⟩ : ∃ W0, W0 = (w.alloc (.cells #[.slice A1 a.nodes.length c1, .slice A2 a.ties.length c2] 62)).alloc (.cells #[.slice A3 b.nodes.length c3, .slice A4 b.ties.length c4] 62) := ⟨_, rfl⟩
  have hb0 : Below w.heap.size w W0 := by rw [hW0]; exact ((Below.refl _ _).alloc (Nat.le_refl _) _).alloc (by simp) _
  have g0 : W0.heap[w.heap.size]? = some (.cells #[.slice A1 a.nodes.length c1, .slice A2 a.ties.length c2] 62 (0, 0)) := by
    rw [hW0, Below.heap_alloc _ _ _ (by simp)]; exact heap_alloc_new _ _
  have g1 : W0.heap[w.heap.size + 1]? = some (.cells #[.slice A3 b.nodes.length c3, .slice A4 b.ties.length c4] 62 (0, 0)) := by
    have := heap_alloc_new (w.alloc (.cells #[.slice A1 a.nodes.length c1, .slice A2 a.ties.length c2] 62)) (.cells #[.slice A3 b.nodes.length c3, .slice A4 b.ties.length c4] 62); rw [hW0]; simpa using this
  have hW0' := hW0.symm
  have hw0 := hb0.size
  have X0 := Lib.hid (block_cell g0 0)
  have X1 := Lib.hid (block_cell g0 1)
  have Y0 := Lib.hid (block_cell g1 0)
  have Y1 := Lib.hid (block_cell g1 1)
  have H1 := Lib.hid (h1.below hb0)
  have H2 := Lib.hid (h2.below hb0)
  have HNN : Hid (¬ a.nodes = b.nodes → decide (a = b) = false) := fun h => decide_eq_false fun e => h (by rw [e])
  have HNT : Hid (¬ a.ties = b.ties → decide (a = b) = false) := fun h => decide_eq_false fun e => h (by rw [e])
  have HEQ : Hid (a.nodes = b.nodes → a.ties = b.ties → decide (a = b) = true) := fun h h' => decide_eq_true (by cases a; cases b; cases h; cases h'; rfl)
  have x0 := X0.out
  have x1 := X1.out
  have y0 := Y0.out
  have y1 := Y1.out
  clear h1 h2 g0 g1 hW0
  generalize decide (a = b) = E at *
  by_cases hl : a.nodes.length = b.nodes.length
  case neg =>
    have HE : Hid (E = false) := HNN.out fun e => hl (by rw [e])
    have hl2 : ((a.nodes.length : Int) != (b.nodes.length : Int)) = true := by rw [bne_iff_ne]; omega
    have hl3 : (a.nodes.length != b.nodes.length) = true := by rw [bne_iff_ne]; omega
    clear hl
    go_enter Tryz.func19, Tryz.ntmps19
    go_wp2_with fail
    go_ret
    exact ⟨by rw [HE.out]; rfl, hb0⟩
  have hl2 : ((a.nodes.length : Int) != (b.nodes.length : Int)) = false := by rw [bne_eq_false_iff_eq]; omega
  have hl3 : (a.nodes.length != b.nodes.length) = false := by rw [bne_eq_false_iff_eq]; omega
  by_cases ht : a.ties.length = b.ties.length
  case neg =>
    have HE : Hid (E = false) := HNT.out fun e => ht (by rw [e])
    have ht2 : ((a.ties.length : Int) != (b.ties.length : Int)) = true := by rw [bne_iff_ne]; omega
    have ht3 : (a.ties.length != b.ties.length) = true := by rw [bne_iff_ne]; omega
    clear hl ht
    go_enter Tryz.func19, Tryz.ntmps19
    go_wp2_with fail
    go_ret
    exact ⟨by rw [HE.out]; rfl, hb0⟩
  have ht2 : ((a.ties.length : Int) != (b.ties.length : Int)) = false := by rw [bne_eq_false_iff_eq]; omega
  have ht3 : (a.ties.length != b.ties.length) = false := by rw [bne_eq_false_iff_eq]; omega
  have HL := Lib.hid hl
  have HT := Lib.hid ht
  clear hl ht
  go_enter Tryz.func19, Tryz.ntmps19
  go_wp2_with fail
  clear hW0' hl2 hl3 ht2 ht3 x1 y1
  go_loopw [5] (fun i wr => ∃ k : Nat, k ≤ a.nodes.length ∧ i = .int .i64 k ∧ Below W0.heap.size W0 wr ∧ Hid (∀ j x y, j < k → a.nodes[j]? = some x → b.nodes[j]? = some y → x = y)) (fun i _ => a.nodes.length - (intOf i).toNat)
  case atStart => exact ⟨0, Nat.zero_le _, rfl, Below.refl _ _, fun j x y hj => absurd hj (Nat.not_lt_zero _)⟩
  case round =>
    clear x0 y0
    obtain ⟨k, hk, rfl, hbr, HA⟩ := hrel
    have x0 := cell_below hbr X0.out
    have hB := hb0.trans (hbr.mono hw0)
    by_cases hlt : k < a.nodes.length
    · have y0 := cell_below hbr Y0.out
      obtain ⟨x, hx⟩ : ∃ d, a.nodes[k]? = some d := ⟨_, List.getElem?_eq_getElem hlt⟩
      obtain ⟨y, hy⟩ : ∃ d, b.nodes[k]? = some d := ⟨_, List.getElem?_eq_getElem (by have := HL.out; omega)⟩
      have hlt' : (k : Int) < (a.nodes.length : Int) := by omega
      have hlt2 : (k : Int) < (b.nodes.length : Int) := by have := HL.out; omega
      obtain ⟨p1, q1, rfl, u1, _, _, hu1, x2, x3, x4⟩ := nod_at (H1.out.below hbr).1 hx
      obtain ⟨p2, q2, rfl, u2, _, _, hu2, y2, y3, y4⟩ := nod_at (H2.out.below hbr).1 hy
      have HNO : Hid (decide (x = y) = false → E = false) := fun h => HNN.out (pair_no hx hy (of_decide_eq_false h))
      have HYES : Hid (decide (x = y) = true → ∀ j x y, j < k + 1 → a.nodes[j]? = some x → b.nodes[j]? = some y → x = y) := fun h => pair_step HA.out hx hy (of_decide_eq_true h)
      have HC : Hid (∀ W, Below wr.heap.size wr W → Calls Tryz.prog 45 #[.agg #[.int .i64 x.id, .string x.kind, u1], .agg #[.int .i64 y.id, .string y.kind, u2]] W fun e w' => e = .returned (.bool (decide (x = y))) ∧ Below W.heap.size W w') := fun W h => snode_any x y _ _ W (hu1.below h) (hu2.below h)
      obtain ⟨B1, d1, rfl, _, _⟩ := hu1.form
      obtain ⟨B2, d2, rfl, _, _⟩ := hu2.form
      clear hx hy hu1 hu2 HA
      generalize decide (x = y) = qq at *
      go_wp2_with fail
      refine wp_mid_k 10 _ rfl rfl (by kernel_rfl) (by kernel_rfl) ?_
      simp only [List.take_succ_cons, List.take_zero, List.drop_succ_cons, List.drop_zero]
      repeat (go_big_quiet_step (fail))
      refine wpQuiet_nil ?_
      intro _ hw'
      obtain ⟨nq, hw''⟩ := hw'
      subst hw''
      intro K hK
      have hbq := below_drewN (Below.refl wr.heap.size wr) nq
      have hc := HC.out (wr.drewN nq) hbq
      clear HC
      go_wp2_with fail
      refine hc.mono ?_
      clear hc
      rintro e w3 ⟨rfl, hb3⟩
      have hb13 := hbq.trans hb3
      refine hK _ _ ?_
      repeat (go_big_quiet_step (fail))
      refine wpQuiet_nil ?_
      intro _ hw'
      obtain ⟨nq2, hw''⟩ := hw'
      subst hw''
      clear hK
      have hbX := below_drewN hb13 nq2
      generalize w3.drewN nq2 = w4 at *
      have hb4 := hbr.trans (hbX.mono hbr.size)
      have hB4 := hB.trans (hbX.mono hB.size)
      clear hbq hb3 hb13 hbX x0 y0 x2 x3 x4 y2 y3 y4
      cases qq with
      | false =>
        have HE : Hid (E = false) := HNO.out rfl
        clear HNO HYES
        go_wp2_with fail
        go_ret
        exact ⟨by rw [HE.out]; rfl, hB4⟩
      | true =>
        have HS := Lib.hid (HYES.out rfl)
        clear HNO HYES
        go_wp2_with fail
        go_roundw
        case rel => exact ⟨k + 1, by omega, by go_num, hb4, HS⟩
        case measure => simp [intOf]; omega
    · obtain rfl : k = a.nodes.length := by omega
      have HEN : Hid (a.nodes = b.nodes) := lists_eq HL.out HA.out
      have x1 := cell_below hbr X1.out
      clear hlt hk HA
      obtain ⟨wo, rfl⟩ : ∃ wo : World, wo = wr := ⟨_, rfl⟩
      go_wp2_with fail
      go_loopw [7] (fun i wr => ∃ k : Nat, k ≤ a.ties.length ∧ i = .int .i64 k ∧ Below W0.heap.size W0 wr ∧ Hid (∀ j x y, j < k → a.ties[j]? = some x → b.ties[j]? = some y → x = y)) (fun i _ => a.ties.length - (intOf i).toNat)
      case atStart => exact ⟨0, Nat.zero_le _, rfl, hbr, fun j x y hj => absurd hj (Nat.not_lt_zero _)⟩
      case round =>
        clear x0 x1 hbr hB
        obtain ⟨k, hk, rfl, hbr, HA⟩ := hrel
        have x1 := cell_below hbr X1.out
        have hB := hb0.trans (hbr.mono hw0)
        by_cases hlt : k < a.ties.length
        · have y1 := cell_below hbr Y1.out
          obtain ⟨x, hx⟩ : ∃ d, a.ties[k]? = some d := ⟨_, List.getElem?_eq_getElem hlt⟩
          obtain ⟨y, hy⟩ : ∃ d, b.ties[k]? = some d := ⟨_, List.getElem?_eq_getElem (by have := HT.out; omega)⟩
          have hlt' : (k : Int) < (a.ties.length : Int) := by omega
          have hlt2 : (k : Int) < (b.ties.length : Int) := by have := HT.out; omega
          obtain ⟨p1, q1, rfl, _, x2, x3, x4⟩ := tie_at (H1.out.below hbr).2 hx
          obtain ⟨p2, q2, rfl, _, y2, y3, y4⟩ := tie_at (H2.out.below hbr).2 hy
          have hneq := tie_neq x y
          have hgd := tie_guard
          by_cases hq : x = y
          · have HS := Lib.hid (pair_step HA.out hx hy hq)
            rw [decide_eq_true hq] at hneq
            clear hx hy hq HA
            go_wp2_with fail
            go_quiet (fail)
            go_wp2_with fail
            go_roundw
            case rel => exact ⟨k + 1, by omega, by go_num, below_drewN hbr _, HS⟩
            case measure => simp [intOf]; omega
          · have HE : Hid (E = false) := HNT.out (pair_no hx hy hq)
            rw [decide_eq_false hq] at hneq
            clear hx hy hq HA
            go_wp2_with fail
            go_quiet (fail)
            go_wp2_with fail
            go_ret
            exact ⟨by rw [HE.out]; rfl, below_drewN hB _⟩
        · obtain rfl : k = a.ties.length := by omega
          have HE : Hid (E = true) := HEQ.out HEN.out (lists_eq HT.out HA.out)
          clear HA
          go_wp2_with fail
          go_ret
          exact ⟨by rw [HE.out]; rfl, hB⟩

def factT : Grf := ⟨[⟨3, ⟨#[97]⟩, [⟨⟨#[120]⟩, 1, 1, ⟨#[]⟩⟩]⟩], [⟨⟨#[112]⟩, 3, 3⟩]⟩
theorem factT_right : grfE factT = 0 := by decide +kernel
theorem factT_text : grfT factT = [110, 111, 100, 101, 32, 51, 32, 97, 32, 120, 61, 49, 10, 116, 105, 101, 32, 112, 32, 51, 32, 51, 10] := by decide +kernel
theorem grfT_len {s : Grf} (h : grfE s = 0) : (grfT s).length ≤ 1048576 := by
  have ho := grf_ok h
  have h3 := ho.1
  have h4 := ho.2.1
  unfold grfT
  have h1 := flatMap_len (f := nodT) (m := 450) (l := s.nodes) fun y hy => nod_len (ho.2.2.2 y hy).2
  have h2 := flatMap_len (f := tieT2) (m := 450) (l := s.ties) fun y hy => tie_len2 ((grf_ties h).2 y hy)
  have h5 : s.nodes.length * 450 ≤ 60 * 450 := Nat.mul_le_mul h3 (Nat.le_refl _)
  have h6 : s.ties.length * 450 ≤ 120 * 450 := Nat.mul_le_mul h4 (Nat.le_refl _)
  rw [List.length_append]; omega
set_option maxRecDepth 100000 in
set_option maxHeartbeats 16000000 in
theorem textBack_any (g : Grf) (s : ByteArray) (vk vb : Value) (w : World) (hT : TxOk w) (hg : GrfR w vk vb g) (hs : Sm s) :
    Calls Tryz.prog 5 #[.agg #[vk, vb], .string s] w fun e w' => e = .returned (.bool true) ∧ Below w.heap.size w w' := by
  obtain ⟨A1, c1, rfl, _, hm1⟩ := hg.1.form
  obtain ⟨A2, c2, rfl, _, hm2⟩ := hg.2.form
  have hb0 : Below w.heap.size w (w.alloc (.cells #[.slice A1 g.nodes.length c1, .slice A2 g.ties.length c2] 62)) := (Below.refl _ _).alloc (Nat.le_refl _) _
  obtain ⟨x0, x1⟩ := cell_box2 w (.slice A1 g.nodes.length c1) (.slice A2 g.ties.length c2) 62
  have HG := Lib.hid (hg.below hb0)
  have HT := Lib.hid hT
  have HPF : Hid (∀ wx, TxOk wx → Calls Tryz.prog 17 #[.string ⟨#[110, 111, 100, 101, 32, 51, 32, 97, 32, 120, 61, 49, 10, 116, 105, 101, 32, 112, 32, 51, 32, 51, 10]⟩] wx fun e w' => ∃ gb o b2 o2 An cn At ct, e = .returned (.tuple #[.agg #[.slice An 1 cn, .slice At 1 ct], .int .i64 0, .nilIface]) ∧ An = some ⟨gb, o, none⟩ ∧ (∃ c3, w'.cell? ⟨gb, o + 2, none⟩ = some (.slice (some ⟨b2, o2, none⟩) 1 c3)) ∧ w'.cell? ⟨b2, o2 + 2, none⟩ = some (.int .i64 1) ∧ Below wx.heap.size wx w') := by
    intro wx hw
    obtain ⟨r1, r2, r3⟩ := read_grf factT_right
    have h := tparse_any (bs (grfT factT)) (by unfold Sm; rw [bs_size]; exact grfT_len factT_right) wx hw
    rw [bs_list, r1, r2, r3, errV_zero rfl] at h
    rw [factT_text] at h
    refine h.mono ?_
    rintro e w' ⟨vn, vt, rfl, hG, hb⟩
    obtain ⟨An, cn, rfl, _, _⟩ := hG.1.form
    obtain ⟨At, ct, rfl, _, _⟩ := hG.2.form
    obtain ⟨gb, o, rfl, u, _, _, hu, _, _, y2⟩ := nod_at hG.1 (k := 0) rfl
    obtain ⟨A3, c3, rfl, _, _⟩ := hu.form
    obtain ⟨b2, o2, rfl, _, _, _, q2, _⟩ := prp_at hu (k := 0) rfl
    rw [Nat.zero_mul, Nat.add_zero] at y2 q2
    exact ⟨gb, o, b2, o2, _, cn, At, ct, rfl, rfl, ⟨c3, y2⟩, q2, hb⟩
  have HParG : Hid (grfE g = 0 → ∀ wx, TxOk wx → Calls Tryz.prog 17 #[.string (bs (grfT g))] wx fun e w' => ∃ vn vt, e = .returned (.tuple #[.agg #[vn, vt], .int .i64 0, .nilIface]) ∧ GrfR w' vn vt g ∧ Below wx.heap.size wx w') := by
    intro h0 wx hw
    obtain ⟨r1, r2, r3⟩ := read_grf h0
    have h := tparse_any (bs (grfT g)) (by unfold Sm; rw [bs_size]; exact grfT_len h0) wx hw
    rw [bs_list, r1, r2, r3, errV_zero rfl] at h
    exact h
  have HParS := Lib.hid (fun wx hw => tparse_any s hs wx hw)
  have HSame := Lib.hid (fun k1 k2 wx h1 h2 => sgraph_any g g k1 k2 (.slice A1 g.nodes.length c1) (.slice A2 g.ties.length c2) wx h1 h2)
  clear hg hT hs
  go_enter Tryz.func5, Tryz.ntmps5
  go_upto_region 1 with fail
  generalize w.alloc (.cells #[.slice A1 g.nodes.length c1, .slice A2 g.ties.length c2] 62) = W0 at *
  have X0 := Lib.hid x0
  have X1 := Lib.hid x1
  have hx := HPF.out W0 (HT.out.below hb0)
  clear x0 x1 HPF
  go_wp2_with fail
  refine hx.mono ?_
  clear hx
  rintro e w1 ⟨gb, o, b2, o2, An, cn, At, ct, rfl, rfl, ⟨c3, y2⟩, q2, hb1⟩
  have ha2 := (Below.refl w1.heap.size w1).alloc (Nat.le_refl _) (.cells #[.slice (some ⟨gb, o, none⟩) 1 cn, .slice At 1 ct] 62)
  obtain ⟨z0, z1⟩ := cell_box2 w1 (.slice (some ⟨gb, o, none⟩) 1 cn) (.slice At 1 ct) 62
  have y2 := cell_below ha2 y2
  have q2 := cell_below ha2 q2
  have hb2 := hb1.trans (ha2.mono hb1.size)
  have hB2 := hb0.trans (hb2.mono hb0.size)
  clear ha2
  go_upto_region 2 with fail
  generalize w1.alloc (.cells #[.slice (some ⟨gb, o, none⟩) 1 cn, .slice At 1 ct] 62) = w2 at *
  go_upto_region 4 with fail
  have x0 := cell_below hb2 X0.out
  have x1 := cell_below hb2 X1.out
  have hx := tprint_any g _ _ w2 (HT.out.below hB2).toTxP (HG.out.below hb2)
  clear z0 z1 y2 q2 hb1
  go_wp2_with fail
  refine hx.mono ?_
  clear hx x0 x1
  rintro e w3 ⟨rfl, hb3⟩
  have hB3 := hB2.trans (hb3.mono hB2.size)
  have hb3 := hb2.trans (hb3.mono hb2.size)
  clear hb2 hB2
  by_cases hz : grfE g = 0
  · have hx := HParG.out hz w3 (HT.out.below hB3)
    rw [errV_zero hz, if_pos hz]
    clear hz HParG
    generalize grfT g = GT at *
    go_wp2_with fail
    refine hx.mono ?_
    clear hx
    rintro e w4 ⟨vn, vt, rfl, hg4, hb4⟩
    have hB4 := hB3.trans (hb4.mono hB3.size)
    have hb4 := hb3.trans (hb4.mono hb3.size)
    obtain ⟨A4, c4, rfl, _, _⟩ := hg4.1.form
    obtain ⟨A5, c5, rfl, _, _⟩ := hg4.2.form
    have ha5 := (Below.refl w4.heap.size w4).alloc (Nat.le_refl _) (.cells #[.slice A4 g.nodes.length c4, .slice A5 g.ties.length c5] 62)
    obtain ⟨z0, z1⟩ := cell_box2 w4 (.slice A4 g.nodes.length c4) (.slice A5 g.ties.length c5) 62
    have hg5 := hg4.below ha5
    have hB5 := hB4.trans (ha5.mono hB4.size)
    have hb5 := hb4.trans (ha5.mono hb4.size)
    clear hb3 hB3 hb4 hB4 hg4 ha5
    go_upto_region 7 with fail
    generalize w4.alloc (.cells #[.slice A4 g.nodes.length c4, .slice A5 g.ties.length c5] 62) = w5 at *
    have x0 := cell_below hb5 X0.out
    have x1 := cell_below hb5 X1.out
    have hx := HSame.out _ _ w5 hg5 (HG.out.below hb5)
    simp only [decide_true] at hx
    clear hg5 HSame
    go_wp2_with fail
    refine hx.mono ?_
    clear hx x0 x1 z0 z1
    rintro e w6 ⟨rfl, hb6⟩
    have hB6 := hB5.trans (hb6.mono hB5.size)
    clear hB5 hb5 hb6 X0 X1 HG
    -- behind the first part: the world is w6; hB6
    have hx := HParS.out w6 (HT.out.below hB6)
    go_wp2_with fail
    refine hx.mono ?_
    clear hx
    rintro e w7 ⟨vn, vt, rfl, hg7, hb7⟩
    have hB7 := hB6.trans (hb7.mono hB6.size)
    obtain ⟨RE, hRE⟩ : ∃ RE, RE = readTE s.data.toList := ⟨_, rfl⟩
    have HRE := Lib.hid hRE
    rw [← hRE]
    clear hRE HParS hb7 hB6
    obtain ⟨A7, c7, rfl, _, _⟩ := hg7.1.form
    obtain ⟨A8, c8, rfl, _, _⟩ := hg7.2.form
    have ha8 := (Below.refl w7.heap.size w7).alloc (Nat.le_refl _) (.cells #[.slice A7 (readTV s.data.toList).nodes.length c7, .slice A8 (readTV s.data.toList).ties.length c8] 62)
    obtain ⟨z0, z1⟩ := cell_box2 w7 (.slice A7 (readTV s.data.toList).nodes.length c7) (.slice A8 (readTV s.data.toList).ties.length c8) 62
    have HG8 := Lib.hid (hg7.below ha8)
    have hB8 := hB7.trans (ha8.mono hB7.size)
    by_cases hr : RE = 0
    case neg =>
      rw [errV_some hr]
      clear hr hg7 HRE z0 z1 HG8
      go_wp2_with fail
      go_ret
      exact ⟨rfl, hB8⟩
    obtain ⟨r1, r2⟩ := grf_read (by rw [← HRE.out]; exact hr)
    rw [errV_zero hr]
    clear hr hg7 HRE
    go_upto_region 11 with fail
    generalize w7.alloc (.cells #[.slice A7 (readTV s.data.toList).nodes.length c7, .slice A8 (readTV s.data.toList).ties.length c8] 62) = w8 at *
    have hx := tprint_any (readTV s.data.toList) _ _ w8 (HT.out.below hB8).toTxP HG8.out
    rw [r1, if_pos rfl, r2, bs_of, errV_zero rfl] at hx
    generalize readTV s.data.toList = RV at *
    clear r1 r2 HG8
    go_wp2_with fail
    refine hx.mono ?_
    clear hx z0 z1
    rintro e w9 ⟨rfl, hb9⟩
    have hss : (s.toList == s.toList) = true := by simp
    go_wp2_with fail
    go_ret
    exact ⟨by simp, hB8.trans (hb9.mono hB8.size)⟩
  · rw [errV_some hz, if_neg hz]
    have hB6 := hB3
    obtain ⟨w6, hw6⟩ : ∃ w6 : World, w6 = w3 := ⟨_, rfl⟩
    rw [← hw6] at hB6 ⊢
    clear hz HParG HSame hB3 hb3 hw6 X0 X1 HG
    -- behind the first part: the world is w6; hB6
    have hx := HParS.out w6 (HT.out.below hB6)
    go_wp2_with fail
    refine hx.mono ?_
    clear hx
    rintro e w7 ⟨vn, vt, rfl, hg7, hb7⟩
    have hB7 := hB6.trans (hb7.mono hB6.size)
    obtain ⟨RE, hRE⟩ : ∃ RE, RE = readTE s.data.toList := ⟨_, rfl⟩
    have HRE := Lib.hid hRE
    rw [← hRE]
    clear hRE HParS hb7 hB6
    obtain ⟨A7, c7, rfl, _, _⟩ := hg7.1.form
    obtain ⟨A8, c8, rfl, _, _⟩ := hg7.2.form
    have ha8 := (Below.refl w7.heap.size w7).alloc (Nat.le_refl _) (.cells #[.slice A7 (readTV s.data.toList).nodes.length c7, .slice A8 (readTV s.data.toList).ties.length c8] 62)
    obtain ⟨z0, z1⟩ := cell_box2 w7 (.slice A7 (readTV s.data.toList).nodes.length c7) (.slice A8 (readTV s.data.toList).ties.length c8) 62
    have HG8 := Lib.hid (hg7.below ha8)
    have hB8 := hB7.trans (ha8.mono hB7.size)
    by_cases hr : RE = 0
    case neg =>
      rw [errV_some hr]
      clear hr hg7 HRE z0 z1 HG8
      go_wp2_with fail
      go_ret
      exact ⟨rfl, hB8⟩
    obtain ⟨r1, r2⟩ := grf_read (by rw [← HRE.out]; exact hr)
    rw [errV_zero hr]
    clear hr hg7 HRE
    go_upto_region 11 with fail
    generalize w7.alloc (.cells #[.slice A7 (readTV s.data.toList).nodes.length c7, .slice A8 (readTV s.data.toList).ties.length c8] 62) = w8 at *
    have hx := tprint_any (readTV s.data.toList) _ _ w8 (HT.out.below hB8).toTxP HG8.out
    rw [r1, if_pos rfl, r2, bs_of, errV_zero rfl] at hx
    generalize readTV s.data.toList = RV at *
    clear r1 r2 HG8
    go_wp2_with fail
    refine hx.mono ?_
    clear hx z0 z1
    rintro e w9 ⟨rfl, hb9⟩
    have hss : (s.toList == s.toList) = true := by simp
    go_wp2_with fail
    go_ret
    exact ⟨by simp, hB8.trans (hb9.mono hB8.size)⟩
end Go.Proofs.YtmbeeaohidgfgaaGreatDoor
