/- Parts: GtA, GtD. -/
import Derived.Test.YthefofclbepkoaaDoorMg16
import Derived.Test.YthefofclbepkoaaDoorMg03
import Derived.Test.YthefofclbepkoaaDoorMg11
/- Contracts: kinsame.Ints, Record, Node, Graph: whether two are the same. No condition. -/
namespace Go.Proofs.YthefofclbepkoaaDoor
open Go Go.RowKit



theorem prp_guard (op : BinOp) (a b : Operand) (xs ys : Array Value) (w : World) : (eqGuard op 107 a b (.agg xs) (.agg ys)).run Tryd.prog w = .ok () w := run_eqGuard_agg w op 107 a b xs ys (by kernel_rfl)
theorem tie_guard (op : BinOp) (a b : Operand) (xs ys : Array Value) (w : World) : (eqGuard op 102 a b (.agg xs) (.agg ys)).run Tryd.prog w = .ok () w := run_eqGuard_agg w op 102 a b xs ys (by kernel_rfl)
theorem pval_same (d : Nat) (x y : Val) (w : World) : (Op.equalIn (d + 2) 104 (.agg #[.int .i64 x.ty, .int .i64 x.n, .string x.s]) (.agg #[.int .i64 y.ty, .int .i64 y.n, .string y.s])).run Tryd.prog w = .ok (decide (x = y)) w := by
  have hS : Tryd.prog.underlying 104 = some (.struct (Tryd.prog.fieldsOf 104)) := by kernel_rfl
  have hp : Tryd.prog.stoodInHeld 104 = false := by kernel_rfl
  have e1 := Tryd.underlying9
  have e2 := Tryd.underlying3
  rw [run_equalIn_agg w (d + 1) 104 _ _ hS hp]
  simp only [Program.fieldsOf, Tryd.underlying104]
  go_simp
  simp only [bytes_eq]
  cases x; cases y
  simp only [Val.mk.injEq]
  rename_i a b c a' b' c'
  by_cases h1 : a = a' <;> by_cases h2 : b = b' <;> by_cases h3 : c = c' <;> simp [h1, h2, h3]
set_option maxRecDepth 100000 in
theorem prp_same (d : Nat) (x y : Prp) (w : World) : (Op.equalIn (d + 3) 107 (.agg #[.string x.name, .int .i64 x.v.ty, .int .i64 x.v.n, .string x.v.s]) (.agg #[.string y.name, .int .i64 y.v.ty, .int .i64 y.v.n, .string y.v.s])).run Tryd.prog w = .ok (decide (x = y)) w := by
  have hS : Tryd.prog.underlying 107 = some (.struct (Tryd.prog.fieldsOf 107)) := by kernel_rfl
  have hp : Tryd.prog.stoodInHeld 107 = false := by kernel_rfl
  have hv := pval_same d x.v y.v w
  have e1 := Tryd.underlying9
  have e2 := Tryd.underlying3
  have e3 := Tryd.underlying104
  have HV := Lib.hid hv
  clear hv
  rw [run_equalIn_agg w (d + 2) 107 _ _ hS hp]
  simp only [Program.fieldsOf, Tryd.underlying107]
  clear hS hp
  go_simp
  clear HV
  simp only [bytes_eq]
  cases x with | mk f v => cases y with | mk f' v' =>
  cases v; cases v'
  simp only [Prp.mk.injEq, Val.mk.injEq]
  rename_i a b c a' b' c'
  by_cases h0 : f = f' <;> by_cases h1 : a = a' <;> by_cases h2 : b = b' <;> by_cases h3 : c = c' <;> simp [h0, h1, h2, h3]
theorem prp_neq (x y : Prp) (w : World) : (binOp .neq 107 (.agg #[.string x.name, .int .i64 x.v.ty, .int .i64 x.v.n, .string x.v.s]) (.agg #[.string y.name, .int .i64 y.v.ty, .int .i64 y.v.n, .string y.v.s])).run Tryd.prog w = .ok (.bool (!decide (x = y))) w := by
  rw [run_neq_struct, show (10000 : Nat) = 9997 + 3 from rfl, prp_same]; rfl
theorem tie_same (d : Nat) (x y : Tie) (w : World) : (Op.equalIn (d + 2) 102 (.agg #[.string x.bond, .int .i64 x.src, .int .i64 x.dst]) (.agg #[.string y.bond, .int .i64 y.src, .int .i64 y.dst])).run Tryd.prog w = .ok (decide (x = y)) w := by
  have hS : Tryd.prog.underlying 102 = some (.struct (Tryd.prog.fieldsOf 102)) := by kernel_rfl
  have hp : Tryd.prog.stoodInHeld 102 = false := by kernel_rfl
  have e1 := Tryd.underlying9
  have e2 := Tryd.underlying3
  rw [run_equalIn_agg w (d + 1) 102 _ _ hS hp]
  simp only [Program.fieldsOf, Tryd.underlying102]
  go_simp
  simp only [bytes_eq]
  cases x; cases y
  simp only [Tie.mk.injEq]
  rename_i a b c a' b' c'
  by_cases h1 : a = a' <;> by_cases h2 : b = b' <;> by_cases h3 : c = c' <;> simp [h1, h2, h3]
theorem tie_neq (x y : Tie) (w : World) : (binOp .neq 102 (.agg #[.string x.bond, .int .i64 x.src, .int .i64 x.dst]) (.agg #[.string y.bond, .int .i64 y.src, .int .i64 y.dst])).run Tryd.prog w = .ok (.bool (!decide (x = y))) w := by
  rw [run_neq_struct, show (10000 : Nat) = 9998 + 2 from rfl, tie_same]; rfl
set_option maxHeartbeats 1000000 in
theorem ints_any_q (a b : List Int) (va vb : Value) (w : World) (ha : Sl intL w va a) (hb : Sl intL w vb b) : Calls Tryd.prog 24 #[va, vb] w fun e w' => e = .returned (.bool (decide (a = b))) ∧ ∃ m, w' = w.drewN m := by
  obtain ⟨A, c, rfl, _, hcm⟩ := ha.form
  obtain ⟨B, d, rfl, _, hdm⟩ := hb.form
  unfold maxLen at hcm hdm
  by_cases hl : a.length = b.length
  case neg =>
    have HE : Hid (decide (a = b) = false) := decide_eq_false fun e => hl (by rw [e])
    have hl' : decide ((a.length : Int) = (b.length : Int)) = false := decide_eq_false (by omega)
    have hl2 : ((a.length : Int) == (b.length : Int)) = false := by rw [beq_eq_false_iff_ne]; omega
    clear ha hb hl
    go_enter Tryd.func24, Tryd.ntmps24
    go_wp2_with fail
    go_ret
    exact ⟨by rw [HE.out]; rfl, 0, rfl⟩
  have HL := Lib.hid hl
  have hlb : a.length ≤ b.length := by omega
  rw [← hl]
  clear hl
  go_enter Tryd.func24, Tryd.ntmps24
  go_wp2_with fail
  go_loopw [5] (fun i wr => ∃ k : Nat, k ≤ a.length ∧ i = .int .i64 k ∧ Below w.heap.size w wr ∧ Hid (∃ m, wr = w.drewN m) ∧ Hid (∀ j x y, j < k → a[j]? = some x → b[j]? = some y → x = y)) (fun i _ => a.length - (intOf i).toNat)
  case atStart => exact ⟨0, Nat.zero_le _, rfl, Below.refl _ _, ⟨0, rfl⟩, fun j x y hj => absurd hj (Nat.not_lt_zero _)⟩
  case round =>
    obtain ⟨k, hk, rfl, hbr, HM, HA⟩ := hrel
    by_cases hlt : k < a.length
    · obtain ⟨x, hx⟩ : ∃ d, a[k]? = some d := ⟨_, List.getElem?_eq_getElem hlt⟩
      obtain ⟨y, hy⟩ : ∃ d, b[k]? = some d := ⟨_, List.getElem?_eq_getElem (by omega)⟩
      have hlt' : (k : Int) < (a.length : Int) := by omega
      obtain ⟨b1, o1, rfl, _, x0⟩ := int_at (ha.below hbr) hx
      obtain ⟨b2, o2, rfl, _, y0⟩ := int_at (hb.below hbr) hy
      have HX := Lib.hid hx
      have HY := Lib.hid hy
      clear hx hy
      by_cases hq : x = y
      · have HS : Hid (∀ j x y, j < k + 1 → a[j]? = some x → b[j]? = some y → x = y) := fun j p q hj hp hq2 => by
          by_cases hjk : j = k
          · subst hjk
            have e1 := HX.out.symm.trans hp
            have e2 := HY.out.symm.trans hq2
            injection e1 with e1; injection e2 with e2
            rw [← e1, ← e2]; exact hq
          · exact HA.out j p q (by omega) hp hq2
        subst hq
        clear ha hb
        go_wp2_with fail
        go_quiet (fail)
        go_wp2_with fail
        go_roundw
        case rel => exact ⟨k + 1, by omega, by go_num, below_drewN hbr _, drewN_step HM.out nq, HS⟩
        case measure => simp [intOf]; omega
      · have HE : Hid (decide (a = b) = false) := decide_eq_false fun e => by
          have e1 := HX.out
          rw [e, HY.out] at e1
          injection e1 with e1
          exact hq e1.symm
        have hqb : (x != y) = true := by rw [bne_iff_ne]; exact hq
        have hqc : (x == y) = false := by rw [beq_eq_false_iff_ne]; exact hq
        clear ha hb hq
        go_wp2_with fail
        go_quiet (fail)
        go_wp2_with fail
        go_ret
        exact ⟨by rw [HE.out]; rfl, drewN_step HM.out nq⟩
    · obtain rfl : k = a.length := by omega
      have HE : Hid (decide (a = b) = true) := decide_eq_true (lists_eq HL.out HA.out)
      clear ha hb
      go_wp2_with fail
      go_ret
      exact ⟨by rw [HE.out]; rfl, HM.out⟩
theorem ints_any (a b : List Int) (va vb : Value) (w : World) (ha : Sl intL w va a) (hb : Sl intL w vb b) : Calls Tryd.prog 24 #[va, vb] w fun e w' => e = .returned (.bool (decide (a = b))) ∧ Below w.heap.size w w' :=
  (ints_any_q a b va vb w ha hb).mono fun _ _ ⟨h, m, hm⟩ => ⟨h, by rw [hm]; exact below_drewN (Below.refl _ _) m⟩
set_option maxHeartbeats 1000000 in
theorem srecord_any_q (a b : List Prp) (va vb : Value) (w : World) (ha : Sl prpL w va a) (hb : Sl prpL w vb b) : Calls Tryd.prog 63 #[va, vb] w fun e w' => e = .returned (.bool (decide (a = b))) ∧ ∃ m, w' = w.drewN m := by
  obtain ⟨A, c, rfl, _, hcm⟩ := ha.form
  obtain ⟨B, d, rfl, _, hdm⟩ := hb.form
  unfold maxLen at hcm hdm
  by_cases hl : a.length = b.length
  case neg =>
    have HE : Hid (decide (a = b) = false) := decide_eq_false fun e => hl (by rw [e])
    have hl' : decide ((a.length : Int) = (b.length : Int)) = false := decide_eq_false (by omega)
    have hl2 : ((a.length : Int) == (b.length : Int)) = false := by rw [beq_eq_false_iff_ne]; omega
    clear ha hb hl
    go_enter Tryd.func63, Tryd.ntmps63
    go_wp2_with fail
    go_ret
    exact ⟨by rw [HE.out]; rfl, 0, rfl⟩
  have HL := Lib.hid hl
  have hlb : a.length ≤ b.length := by omega
  rw [← hl]
  clear hl
  go_enter Tryd.func63, Tryd.ntmps63
  go_wp2_with fail
  go_loopw [5] (fun i wr => ∃ k : Nat, k ≤ a.length ∧ i = .int .i64 k ∧ Below w.heap.size w wr ∧ Hid (∃ m, wr = w.drewN m) ∧ Hid (∀ j x y, j < k → a[j]? = some x → b[j]? = some y → x = y)) (fun i _ => a.length - (intOf i).toNat)
  case atStart => exact ⟨0, Nat.zero_le _, rfl, Below.refl _ _, ⟨0, rfl⟩, fun j x y hj => absurd hj (Nat.not_lt_zero _)⟩
  case round =>
    obtain ⟨k, hk, rfl, hbr, HM, HA⟩ := hrel
    by_cases hlt : k < a.length
    · obtain ⟨x, hx⟩ : ∃ d, a[k]? = some d := ⟨_, List.getElem?_eq_getElem hlt⟩
      obtain ⟨y, hy⟩ : ∃ d, b[k]? = some d := ⟨_, List.getElem?_eq_getElem (by omega)⟩
      have hlt' : (k : Int) < (a.length : Int) := by omega
      obtain ⟨b1, o1, rfl, _, x0, x1, x2, x3⟩ := prp_at (ha.below hbr) hx
      obtain ⟨b2, o2, rfl, _, y0, y1, y2, y3⟩ := prp_at (hb.below hbr) hy
      have hneq := prp_neq x y
      have hgd := prp_guard
      have HX := Lib.hid hx
      have HY := Lib.hid hy
      clear hx hy
      by_cases hq : x = y
      · have HS : Hid (∀ j x y, j < k + 1 → a[j]? = some x → b[j]? = some y → x = y) := fun j p q hj hp hq2 => by
          by_cases hjk : j = k
          · subst hjk
            have e1 := HX.out.symm.trans hp
            have e2 := HY.out.symm.trans hq2
            injection e1 with e1; injection e2 with e2
            rw [← e1, ← e2]; exact hq
          · exact HA.out j p q (by omega) hp hq2
        rw [decide_eq_true hq] at hneq
        clear ha hb hq
        go_wp2_with fail
        go_quiet (fail)
        go_wp2_with fail
        go_roundw
        case rel => exact ⟨k + 1, by omega, by go_num, below_drewN hbr _, drewN_step HM.out nq, HS⟩
        case measure => simp [intOf]; omega
      · have HE : Hid (decide (a = b) = false) := decide_eq_false fun e => by
          have e1 := HX.out
          rw [e, HY.out] at e1
          injection e1 with e1
          exact hq e1.symm
        rw [decide_eq_false hq] at hneq
        clear ha hb hq
        go_wp2_with fail
        go_quiet (fail)
        go_wp2_with fail
        go_ret
        exact ⟨by rw [HE.out]; rfl, drewN_step HM.out nq⟩
    · obtain rfl : k = a.length := by omega
      have HE : Hid (decide (a = b) = true) := decide_eq_true (lists_eq HL.out HA.out)
      clear ha hb
      go_wp2_with fail
      go_ret
      exact ⟨by rw [HE.out]; rfl, HM.out⟩
theorem srecord_any (a b : List Prp) (va vb : Value) (w : World) (ha : Sl prpL w va a) (hb : Sl prpL w vb b) : Calls Tryd.prog 63 #[va, vb] w fun e w' => e = .returned (.bool (decide (a = b))) ∧ Below w.heap.size w w' :=
  (srecord_any_q a b va vb w ha hb).mono fun _ _ ⟨h, m, hm⟩ => ⟨h, by rw [hm]; exact below_drewN (Below.refl _ _) m⟩
set_option maxHeartbeats 1000000 in
theorem eqPrps_any_q (a b : List Prp) (va vb : Value) (w : World) (ha : Sl prpL w va a) (hb : Sl prpL w vb b) : Calls Tryd.prog 97 #[va, vb] w fun e w' => e = .returned (.bool (decide (a = b))) ∧ ∃ m, w' = w.drewN m := by
  obtain ⟨A, c, rfl, _, hcm⟩ := ha.form
  obtain ⟨B, d, rfl, _, hdm⟩ := hb.form
  unfold maxLen at hcm hdm
  by_cases hl : a.length = b.length
  case neg =>
    have HE : Hid (decide (a = b) = false) := decide_eq_false fun e => hl (by rw [e])
    have hl' : decide ((a.length : Int) = (b.length : Int)) = false := decide_eq_false (by omega)
    have hl2 : ((a.length : Int) == (b.length : Int)) = false := by rw [beq_eq_false_iff_ne]; omega
    clear ha hb hl
    go_enter Tryd.func97, Tryd.ntmps97
    go_wp2_with fail
    go_ret
    exact ⟨by rw [HE.out]; rfl, 0, rfl⟩
  have HL := Lib.hid hl
  have hlb : a.length ≤ b.length := by omega
  rw [← hl]
  clear hl
  go_enter Tryd.func97, Tryd.ntmps97
  go_wp2_with fail
  go_loopw [13] (fun i wr => ∃ k : Nat, k ≤ a.length ∧ i = .int .i64 k ∧ Below w.heap.size w wr ∧ Hid (∃ m, wr = w.drewN m) ∧ Hid (∀ j x y, j < k → a[j]? = some x → b[j]? = some y → x = y)) (fun i _ => a.length - (intOf i).toNat)
  case atStart => exact ⟨0, Nat.zero_le _, rfl, Below.refl _ _, ⟨0, rfl⟩, fun j x y hj => absurd hj (Nat.not_lt_zero _)⟩
  case round =>
    obtain ⟨k, hk, rfl, hbr, HM, HA⟩ := hrel
    by_cases hlt : k < a.length
    · obtain ⟨x, hx⟩ : ∃ d, a[k]? = some d := ⟨_, List.getElem?_eq_getElem hlt⟩
      obtain ⟨y, hy⟩ : ∃ d, b[k]? = some d := ⟨_, List.getElem?_eq_getElem (by omega)⟩
      have hlt' : (k : Int) < (a.length : Int) := by omega
      obtain ⟨b1, o1, rfl, _, x0, x1, x2, x3⟩ := prp_at (ha.below hbr) hx
      obtain ⟨b2, o2, rfl, _, y0, y1, y2, y3⟩ := prp_at (hb.below hbr) hy
      have hneq := prp_neq x y
      have hgd := prp_guard
      have HX := Lib.hid hx
      have HY := Lib.hid hy
      clear hx hy
      by_cases hq : x = y
      · have HS : Hid (∀ j x y, j < k + 1 → a[j]? = some x → b[j]? = some y → x = y) := fun j p q hj hp hq2 => by
          by_cases hjk : j = k
          · subst hjk
            have e1 := HX.out.symm.trans hp
            have e2 := HY.out.symm.trans hq2
            injection e1 with e1; injection e2 with e2
            rw [← e1, ← e2]; exact hq
          · exact HA.out j p q (by omega) hp hq2
        rw [decide_eq_true hq] at hneq
        clear ha hb hq
        go_wp2_with fail
        go_quiet (fail)
        go_wp2_with fail
        go_roundw
        case rel => exact ⟨k + 1, by omega, by go_num, below_drewN hbr _, drewN_step HM.out nq, HS⟩
        case measure => simp [intOf]; omega
      · have HE : Hid (decide (a = b) = false) := decide_eq_false fun e => by
          have e1 := HX.out
          rw [e, HY.out] at e1
          injection e1 with e1
          exact hq e1.symm
        rw [decide_eq_false hq] at hneq
        clear ha hb hq
        go_wp2_with fail
        go_quiet (fail)
        go_wp2_with fail
        go_ret
        exact ⟨by rw [HE.out]; rfl, drewN_step HM.out nq⟩
    · obtain rfl : k = a.length := by omega
      have HE : Hid (decide (a = b) = true) := decide_eq_true (lists_eq HL.out HA.out)
      clear ha hb
      go_wp2_with fail
      go_ret
      exact ⟨by rw [HE.out]; rfl, HM.out⟩
theorem eqPrps_any (a b : List Prp) (va vb : Value) (w : World) (ha : Sl prpL w va a) (hb : Sl prpL w vb b) : Calls Tryd.prog 97 #[va, vb] w fun e w' => e = .returned (.bool (decide (a = b))) ∧ Below w.heap.size w w' :=
  (eqPrps_any_q a b va vb w ha hb).mono fun _ _ ⟨h, m, hm⟩ => ⟨h, by rw [hm]; exact below_drewN (Below.refl _ _) m⟩
set_option maxHeartbeats 1000000 in
theorem eqTies_any_q (a b : List Tie) (va vb : Value) (w : World) (ha : Sl tieL w va a) (hb : Sl tieL w vb b) : Calls Tryd.prog 67 #[va, vb] w fun e w' => e = .returned (.bool (decide (a = b))) ∧ ∃ m, w' = w.drewN m := by
  obtain ⟨A, c, rfl, _, hcm⟩ := ha.form
  obtain ⟨B, d, rfl, _, hdm⟩ := hb.form
  unfold maxLen at hcm hdm
  by_cases hl : a.length = b.length
  case neg =>
    have HE : Hid (decide (a = b) = false) := decide_eq_false fun e => hl (by rw [e])
    have hl' : decide ((a.length : Int) = (b.length : Int)) = false := decide_eq_false (by omega)
    have hl2 : ((a.length : Int) == (b.length : Int)) = false := by rw [beq_eq_false_iff_ne]; omega
    clear ha hb hl
    go_enter Tryd.func67, Tryd.ntmps67
    go_wp2_with fail
    go_ret
    exact ⟨by rw [HE.out]; rfl, 0, rfl⟩
  have HL := Lib.hid hl
  have hlb : a.length ≤ b.length := by omega
  rw [← hl]
  clear hl
  go_enter Tryd.func67, Tryd.ntmps67
  go_wp2_with fail
  go_loopw [13] (fun i wr => ∃ k : Nat, k ≤ a.length ∧ i = .int .i64 k ∧ Below w.heap.size w wr ∧ Hid (∃ m, wr = w.drewN m) ∧ Hid (∀ j x y, j < k → a[j]? = some x → b[j]? = some y → x = y)) (fun i _ => a.length - (intOf i).toNat)
  case atStart => exact ⟨0, Nat.zero_le _, rfl, Below.refl _ _, ⟨0, rfl⟩, fun j x y hj => absurd hj (Nat.not_lt_zero _)⟩
  case round =>
    obtain ⟨k, hk, rfl, hbr, HM, HA⟩ := hrel
    by_cases hlt : k < a.length
    · obtain ⟨x, hx⟩ : ∃ d, a[k]? = some d := ⟨_, List.getElem?_eq_getElem hlt⟩
      obtain ⟨y, hy⟩ : ∃ d, b[k]? = some d := ⟨_, List.getElem?_eq_getElem (by omega)⟩
      have hlt' : (k : Int) < (a.length : Int) := by omega
      obtain ⟨b1, o1, rfl, _, x0, x1, x2⟩ := tie_at (ha.below hbr) hx
      obtain ⟨b2, o2, rfl, _, y0, y1, y2⟩ := tie_at (hb.below hbr) hy
      have hneq := tie_neq x y
      have hgd := tie_guard
      have HX := Lib.hid hx
      have HY := Lib.hid hy
      clear hx hy
      by_cases hq : x = y
      · have HS : Hid (∀ j x y, j < k + 1 → a[j]? = some x → b[j]? = some y → x = y) := fun j p q hj hp hq2 => by
          by_cases hjk : j = k
          · subst hjk
            have e1 := HX.out.symm.trans hp
            have e2 := HY.out.symm.trans hq2
            injection e1 with e1; injection e2 with e2
            rw [← e1, ← e2]; exact hq
          · exact HA.out j p q (by omega) hp hq2
        rw [decide_eq_true hq] at hneq
        clear ha hb hq
        go_wp2_with fail
        go_quiet (fail)
        go_wp2_with fail
        go_roundw
        case rel => exact ⟨k + 1, by omega, by go_num, below_drewN hbr _, drewN_step HM.out nq, HS⟩
        case measure => simp [intOf]; omega
      · have HE : Hid (decide (a = b) = false) := decide_eq_false fun e => by
          have e1 := HX.out
          rw [e, HY.out] at e1
          injection e1 with e1
          exact hq e1.symm
        rw [decide_eq_false hq] at hneq
        clear ha hb hq
        go_wp2_with fail
        go_quiet (fail)
        go_wp2_with fail
        go_ret
        exact ⟨by rw [HE.out]; rfl, drewN_step HM.out nq⟩
    · obtain rfl : k = a.length := by omega
      have HE : Hid (decide (a = b) = true) := decide_eq_true (lists_eq HL.out HA.out)
      clear ha hb
      go_wp2_with fail
      go_ret
      exact ⟨by rw [HE.out]; rfl, HM.out⟩
theorem eqTies_any (a b : List Tie) (va vb : Value) (w : World) (ha : Sl tieL w va a) (hb : Sl tieL w vb b) : Calls Tryd.prog 67 #[va, vb] w fun e w' => e = .returned (.bool (decide (a = b))) ∧ Below w.heap.size w w' :=
  (eqTies_any_q a b va vb w ha hb).mono fun _ _ ⟨h, m, hm⟩ => ⟨h, by rw [hm]; exact below_drewN (Below.refl _ _) m⟩

/-! ### Two nodes -/

theorem nod_eqB (a b : Nod) : decide (a = b) = (decide (a.props = b.props) && decide (a.id = b.id) && decide (a.kind = b.kind)) := by
  cases a; cases b
  simp only [Nod.mk.injEq]
  rename_i i k p i' k' p'
  by_cases h1 : i = i' <;> by_cases h2 : k = k' <;> by_cases h3 : p = p' <;> simp [h1, h2, h3]
set_option maxHeartbeats 2000000 in
theorem snode_any (a b : Nod) (u1 u2 : Value) (w : World) (f1 : Sl prpL w u1 a.props) (f2 : Sl prpL w u2 b.props) :
    Calls Tryd.prog 22 #[.agg #[.int .i64 a.id, .string a.kind, u1], .agg #[.int .i64 b.id, .string b.kind, u2]] w fun e w' => e = .returned (.bool (decide (a = b))) ∧ Below w.heap.size w w' := by
  obtain ⟨A1, c1, rfl, _, _⟩ := f1.form
  obtain ⟨A2, c2, rfl, _, _⟩ := f2.form
  obtain ⟨W0, hW0⟩ : ∃ W0, W0 = (w.alloc (.cells #[.int .i64 a.id, .string a.kind, .slice A1 a.props.length c1] 56)).alloc (.cells #[.int .i64 b.id, .string b.kind, .slice A2 b.props.length c2] 56) := ⟨_, rfl⟩
  have hb0 : Below w.heap.size w W0 := by rw [hW0]; exact ((Below.refl _ _).alloc (Nat.le_refl _) _).alloc (by simp) _
  have g0 : W0.heap[w.heap.size]? = some (.cells #[.int .i64 a.id, .string a.kind, .slice A1 a.props.length c1] 56 (0, 0)) := by
    rw [hW0, Below.heap_alloc _ _ _ (by simp)]; exact heap_alloc_new _ _
  have g1 : W0.heap[w.heap.size + 1]? = some (.cells #[.int .i64 b.id, .string b.kind, .slice A2 b.props.length c2] 56 (0, 0)) := by
    have := heap_alloc_new (w.alloc (.cells #[.int .i64 a.id, .string a.kind, .slice A1 a.props.length c1] 56)) (.cells #[.int .i64 b.id, .string b.kind, .slice A2 b.props.length c2] 56); rw [hW0]; simpa using this
  have hW0' := hW0.symm
  have hw0 := hb0.size
  have x0 := block_cell g0 0
  have x1 := block_cell g0 1
  have x2 := block_cell g0 2
  have y0 := block_cell g1 0
  have y1 := block_cell g1 1
  have y2 := block_cell g1 2
  have hr := srecord_any a.props b.props _ _ W0 (f1.below hb0) (f2.below hb0)
  have HF := Lib.hid (nod_eqB a b)
  have hkb : (a.kind.toList == b.kind.toList) = decide (a.kind = b.kind) := bytes_beq a.kind b.kind
  clear f1 f2 g0 g1 hW0
  generalize decide (a.props = b.props) = q at *
  generalize decide (a = b) = E at *
  go_enter Tryd.func22, Tryd.ntmps22
  go_wp2_with fail
  clear hW0'
  refine hr.mono ?_
  clear hr
  rintro e w1 ⟨rfl, hb1⟩
  have x0 := cell_below hb1 x0
  have x1 := cell_below hb1 x1
  have y0 := cell_below hb1 y0
  have y1 := cell_below hb1 y1
  have hBX := hb0.trans (hb1.mono hw0)
  clear x2 y2 hb1 hb0
  cases q with
  | false =>
    have HE : Hid (E = false) := by unfold Hid; rw [HF.out]; rfl
    clear HF
    go_wp2_with fail
    go_ret
    exact ⟨by rw [HE.out]; rfl, hBX⟩
  | true =>
    by_cases h1 : a.id = b.id
    case neg =>
      have HE : Hid (E = false) := by unfold Hid; rw [HF.out, decide_eq_false h1]; rfl
      have h1b : (a.id == b.id) = false := by rw [beq_eq_false_iff_ne]; exact h1
      clear HF h1
      go_wp2_with fail
      go_ret
      exact ⟨by rw [HE.out]; rfl, hBX⟩
    have h1b : (a.id == b.id) = true := by rw [beq_iff_eq]; exact h1
    by_cases h2 : a.kind = b.kind
    · have HE : Hid (E = true) := by unfold Hid; rw [HF.out, decide_eq_true h1, decide_eq_true h2]; rfl
      rw [decide_eq_true h2] at hkb
      have hkc : a.kind.toList = b.kind.toList := by rw [h2]
      clear HF h1 h2
      go_wp2_with fail
      go_ret
      exact ⟨by rw [HE.out]; rfl, hBX⟩
    · have HE : Hid (E = false) := by unfold Hid; rw [HF.out, decide_eq_true h1, decide_eq_false h2]; rfl
      rw [decide_eq_false h2] at hkb
      have hkc : ¬ a.kind.toList = b.kind.toList := by rw [bytes_eq]; exact h2
      clear HF h1 h2
      go_wp2_with fail
      go_ret
      exact ⟨by rw [HE.out]; rfl, hBX⟩
end Go.Proofs.YthefofclbepkoaaDoor

/- Contracts of the references: kinref1.Find, kinref1.Ends. No condition. -/
namespace Go.Proofs.YthefofclbepkoaaDoor
open Go Go.RowKit


def rfI (l : List Nod) (id : Int) : Int := idxI (fun n => decide (n.id = id)) l
set_option maxHeartbeats 1000000 in
theorem rgfind_any (g : Grf) (vn vt : Value) (id : Int) (w : World) (hG : GrfR w vn vt g) :
    Calls Tryd.prog 19 #[.agg #[vn, vt], .int .i64 id] w fun e w' => e = .returned (.int .i64 (rfI g.nodes id)) ∧ Below w.heap.size w w' := by
  obtain ⟨A1, c1, rfl, _, hm1⟩ := hG.1.form
  obtain ⟨A2, c2, rfl, _, hm2⟩ := hG.2.form
  unfold maxLen at hm1 hm2
  have hb0 : Below w.heap.size w (w.alloc (.cells #[.slice A1 g.nodes.length c1, .slice A2 g.ties.length c2] 47)) := (Below.refl _ _).alloc (Nat.le_refl _) _
  obtain ⟨x0, x1⟩ := cell_box2 w (.slice A1 g.nodes.length c1) (.slice A2 g.ties.length c2) 47
  have hf := (hG.below hb0).1
  generalize g.nodes = l at *
  clear hG
  go_enter Tryd.func19, Tryd.ntmps19
  go_wp2_with fail
  generalize w.alloc (.cells #[.slice A1 l.length c1, .slice A2 g.ties.length c2] 47) = w0 at *
  go_loop [5] (fun i => ∃ k : Nat, k ≤ l.length ∧ i = .int .i64 k ∧ Hid (∀ j x, j < k → l[j]? = some x → decide (x.id = id) = false)) (fun i => l.length - (intOf i).toNat)
  case atStart => exact ⟨0, Nat.zero_le _, rfl, fun j x hj => absurd hj (Nat.not_lt_zero _)⟩
  case round =>
    obtain ⟨k, hk, rfl, HA⟩ := hrel
    by_cases hlt : k < l.length
    · obtain ⟨d, hd⟩ : ∃ d, l[k]? = some d := ⟨_, List.getElem?_eq_getElem hlt⟩
      obtain ⟨b, o, rfl, u, _, _, _, c0, _, _⟩ := nod_at hf hd
      have hlt' : (k : Int) < (l.length : Int) := by omega
      have HD : Hid (l[k]? = some d) := hd
      clear hd hf
      by_cases hq0 : d.id = id
      · have HE : Hid (rfI l id = k) := by unfold Hid rfI; exact idxI_hit (p := fun n : Nod => decide (n.id = id)) HA.out HD.out (decide_eq_true hq0)
        have hqb : (d.id == id) = true := by rw [beq_iff_eq]; exact hq0
        clear hq0
        go_wp2_with fail
        go_ret
        exact ⟨by rw [HE.out]; rfl, hb0⟩
      · have hqb : (d.id == id) = false := by rw [beq_eq_false_iff_ne]; exact hq0
        have HS : Hid (∀ j y, j < k + 1 → l[j]? = some y → decide (y.id = id) = false) := miss_step (p := fun n : Nod => decide (n.id = id)) HA.out HD.out (decide_eq_false hq0)
        clear hq0
        go_wp2_with fail
        go_round
        case rel => exact ⟨k + 1, by omega, by go_num, HS⟩
        case measure => simp [intOf]; omega
    · have hkl : k = l.length := by omega
      subst hkl
      have HE : Hid (rfI l id = -1) := by unfold Hid rfI; exact idxI_miss (p := fun n : Nod => decide (n.id = id)) HA.out
      clear hf
      go_wp2_with fail
      go_ret
      exact ⟨by rw [HE.out]; rfl, hb0⟩
/-! ### Ends: put where they belong -/
theorem ins_perm (acc : List Int) (n : Int) (p : Nat) : (acc.take p ++ n :: acc.drop p).Perm (n :: acc) := by
  have h : (acc.take p ++ n :: acc.drop p).Perm (n :: (acc.take p ++ acc.drop p)) := List.perm_middle
  rwa [List.take_append_drop] at h
theorem ins_rise {acc : List Int} {n : Int} {p : Nat} (hs : acc.Pairwise (· ≤ ·)) (hp : p ≤ acc.length) (hA : ∀ i d, p ≤ i → acc[i]? = some d → n < d) (hB : p = 0 ∨ ∃ q, acc[p - 1]? = some q ∧ q ≤ n) : (acc.take p ++ n :: acc.drop p).Pairwise (· ≤ ·) := by
  have h0 : (acc.take p ++ acc.drop p).Pairwise (· ≤ ·) := by rw [List.take_append_drop]; exact hs
  rw [List.pairwise_append] at h0 ⊢
  obtain ⟨h1, h2, h3⟩ := h0
  have hd : ∀ d ∈ acc.drop p, n < d := fun d hd => by
    obtain ⟨i, hi⟩ := List.mem_iff_getElem?.1 hd
    rw [List.getElem?_drop] at hi
    exact hA (p + i) d (by omega) hi
  have ht : ∀ d ∈ acc.take p, d ≤ n := fun d hd => by
    rcases hB with h | ⟨q, hq, hqn⟩
    · rw [h] at hd; simp at hd
    · obtain ⟨i, hi⟩ := List.mem_iff_getElem?.1 hd
      rw [List.getElem?_take] at hi
      split at hi
      · rename_i hip
        have hil := (List.getElem?_eq_some_iff.1 hi).1
        have hql := (List.getElem?_eq_some_iff.1 hq).1
        have e1 := (List.getElem?_eq_some_iff.1 hi).2
        have e2 := (List.getElem?_eq_some_iff.1 hq).2
        rcases Nat.lt_or_ge i (p - 1) with h | h
        · have := List.pairwise_iff_getElem.1 hs i (p - 1) hil hql h
          omega
        · have hie : i = p - 1 := by omega
          subst hie
          omega
      · cases hi
  refine ⟨h1, List.pairwise_cons.2 ⟨fun d hd' => by have := hd d hd'; omega, h2⟩, fun a ha b hb => ?_⟩
  rcases List.mem_cons.1 hb with rfl | hb
  · exact ht a ha
  · exact h3 a ha b hb
theorem sortI_rise (l : List Int) : (sortI l).Pairwise (· ≤ ·) := by
  have h := List.pairwise_mergeSort (le := fun a b : Int => decide (a ≤ b)) (fun a b c h1 h2 => by simp at *; omega) (fun a b => by simp; omega) l
  exact h.imp (fun h => by simpa using h)
theorem sortI_of {acc l : List Int} (hs : acc.Pairwise (· ≤ ·)) (hp : acc.Perm l) : acc = sortI l :=
  List.Perm.eq_of_pairwise (fun a b _ _ h1 h2 => by omega) hs (sortI_rise l) (hp.trans (sortI_perm l).symm)
theorem read_takeI {w : World} {B bo oo co t : Nat} {e : TypeId} {acc : List Int} (h : Own w B e 1 (.slice (some ⟨bo, oo, none⟩) acc.length co) acc.length (acc.map (Value.int .i64))) :
    ∀ j u, ((acc.take t).map (Value.int .i64))[j]? = some u → w.cell? ((⟨bo, oo, none⟩ : Addr).add j) = some u := by
  intro j u hj
  rw [addr_add]
  refine h.cell rfl ?_
  rw [List.map_take, List.getElem?_take] at hj
  split at hj
  · exact hj
  · cases hj
theorem read_dropI {w : World} {B bo oo co t : Nat} {e : TypeId} {acc : List Int} (h : Own w B e 1 (.slice (some ⟨bo, oo, none⟩) acc.length co) acc.length (acc.map (Value.int .i64))) :
    ∀ j u, ((acc.drop t).map (Value.int .i64))[j]? = some u → w.cell? ((⟨bo, oo + t, none⟩ : Addr).add j) = some u := by
  intro j u hj
  rw [addr_add, Nat.add_assoc]
  refine h.cell rfl ?_
  rw [List.map_drop, List.getElem?_drop] at hj
  exact hj
theorem one_ints (l : List Int) : ∀ u ∈ l.map (Value.int .i64), u.oneCell' = true := fun u hu => by
  obtain ⟨x, _, rfl⟩ := List.mem_map.1 hu; rfl
end Go.Proofs.YthefofclbepkoaaDoor
