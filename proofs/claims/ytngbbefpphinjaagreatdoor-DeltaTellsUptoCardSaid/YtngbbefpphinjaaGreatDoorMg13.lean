/- Parts: GtA, HldG, KpG, RdS, RdL, RdA. -/
import Derived.Test.YtngbbefpphinjaaGreatDoorMg12
import Derived.Test.YtngbbefpphinjaaGreatDoorMg02
import Derived.Test.YtngbbefpphinjaaGreatDoorMg08
import Derived.Test.YtngbbefpphinjaaGreatDoorMg05
import Derived.Test.YtngbbefpphinjaaGreatDoorMg07
import Derived.Deep.DeepCutAuto
import Derived.Deep.CutBlock
/- Contracts: kinsame.Ints, Record, Node, Graph: whether two are the same. No condition. -/
namespace Go.Proofs.YtngbbefpphinjaaGreatDoor
open Go Go.RowKit



theorem prp_guard (op : BinOp) (a b : Operand) (xs ys : Array Value) (w : World) : (eqGuard op 33 a b (.agg xs) (.agg ys)).run Tryz.prog w = .ok () w := run_eqGuard_agg w op 33 a b xs ys (by kernel_rfl)
theorem tie_guard (op : BinOp) (a b : Operand) (xs ys : Array Value) (w : World) : (eqGuard op 35 a b (.agg xs) (.agg ys)).run Tryz.prog w = .ok () w := run_eqGuard_agg w op 35 a b xs ys (by kernel_rfl)
theorem pval_same (d : Nat) (x y : Val) (w : World) : (Op.equalIn (d + 2) 31 (.agg #[.int .i64 x.ty, .int .i64 x.n, .string x.s]) (.agg #[.int .i64 y.ty, .int .i64 y.n, .string y.s])).run Tryz.prog w = .ok (decide (x = y)) w := by
  have hS : Tryz.prog.underlying 31 = some (.struct (Tryz.prog.fieldsOf 31)) := by kernel_rfl
  have hp : Tryz.prog.stoodInHeld 31 = false := by kernel_rfl
  have e1 := Tryz.underlying9
  have e2 := Tryz.underlying3
  rw [run_equalIn_agg w (d + 1) 31 _ _ hS hp]
  simp only [Program.fieldsOf, Tryz.underlying31]
  go_simp
  simp only [bytes_eq]
  cases x; cases y
  simp only [Val.mk.injEq]
  rename_i a b c a' b' c'
  by_cases h1 : a = a' <;> by_cases h2 : b = b' <;> by_cases h3 : c = c' <;> simp [h1, h2, h3]
set_option maxRecDepth 100000 in
theorem prp_same (d : Nat) (x y : Prp) (w : World) : (Op.equalIn (d + 3) 33 (.agg #[.string x.name, .int .i64 x.v.ty, .int .i64 x.v.n, .string x.v.s]) (.agg #[.string y.name, .int .i64 y.v.ty, .int .i64 y.v.n, .string y.v.s])).run Tryz.prog w = .ok (decide (x = y)) w := by
  have hS : Tryz.prog.underlying 33 = some (.struct (Tryz.prog.fieldsOf 33)) := by kernel_rfl
  have hp : Tryz.prog.stoodInHeld 33 = false := by kernel_rfl
  have hv := pval_same d x.v y.v w
  have e1 := Tryz.underlying9
  have e2 := Tryz.underlying3
  have e3 := Tryz.underlying31
  have HV := Lib.hid hv
  clear hv
  rw [run_equalIn_agg w (d + 2) 33 _ _ hS hp]
  simp only [Program.fieldsOf, Tryz.underlying33]
  clear hS hp
  go_simp
  clear HV
  simp only [bytes_eq]
  cases x with | mk f v => cases y with | mk f' v' =>
  cases v; cases v'
  simp only [Prp.mk.injEq, Val.mk.injEq]
  rename_i a b c a' b' c'
  by_cases h0 : f = f' <;> by_cases h1 : a = a' <;> by_cases h2 : b = b' <;> by_cases h3 : c = c' <;> simp [h0, h1, h2, h3]
theorem prp_neq (x y : Prp) (w : World) : (binOp .neq 33 (.agg #[.string x.name, .int .i64 x.v.ty, .int .i64 x.v.n, .string x.v.s]) (.agg #[.string y.name, .int .i64 y.v.ty, .int .i64 y.v.n, .string y.v.s])).run Tryz.prog w = .ok (.bool (!decide (x = y))) w := by
  rw [run_neq_struct, show (10000 : Nat) = 9997 + 3 from rfl, prp_same]; rfl
theorem tie_same (d : Nat) (x y : Tie) (w : World) : (Op.equalIn (d + 2) 35 (.agg #[.string x.bond, .int .i64 x.src, .int .i64 x.dst]) (.agg #[.string y.bond, .int .i64 y.src, .int .i64 y.dst])).run Tryz.prog w = .ok (decide (x = y)) w := by
  have hS : Tryz.prog.underlying 35 = some (.struct (Tryz.prog.fieldsOf 35)) := by kernel_rfl
  have hp : Tryz.prog.stoodInHeld 35 = false := by kernel_rfl
  have e1 := Tryz.underlying9
  have e2 := Tryz.underlying3
  rw [run_equalIn_agg w (d + 1) 35 _ _ hS hp]
  simp only [Program.fieldsOf, Tryz.underlying35]
  go_simp
  simp only [bytes_eq]
  cases x; cases y
  simp only [Tie.mk.injEq]
  rename_i a b c a' b' c'
  by_cases h1 : a = a' <;> by_cases h2 : b = b' <;> by_cases h3 : c = c' <;> simp [h1, h2, h3]
theorem tie_neq (x y : Tie) (w : World) : (binOp .neq 35 (.agg #[.string x.bond, .int .i64 x.src, .int .i64 x.dst]) (.agg #[.string y.bond, .int .i64 y.src, .int .i64 y.dst])).run Tryz.prog w = .ok (.bool (!decide (x = y))) w := by
  rw [run_neq_struct, show (10000 : Nat) = 9998 + 2 from rfl, tie_same]; rfl
set_option maxHeartbeats 1000000 in
theorem srecord_any_q (a b : List Prp) (va vb : Value) (w : World) (ha : Sl prpL w va a) (hb : Sl prpL w vb b) : Calls Tryz.prog 112 #[va, vb] w fun e w' => e = .returned (.bool (decide (a = b))) ∧ ∃ m, w' = w.drewN m := by
  obtain ⟨A, c, rfl, _, hcm⟩ := ha.form
  obtain ⟨B, d, rfl, _, hdm⟩ := hb.form
  unfold maxLen at hcm hdm
  by_cases hl : a.length = b.length
  case neg =>
    have HE : Hid (decide (a = b) = false) := decide_eq_false fun e => hl (by rw [e])
    have hl' : decide ((a.length : Int) = (b.length : Int)) = false := decide_eq_false (by omega)
    have hl2 : ((a.length : Int) == (b.length : Int)) = false := by rw [beq_eq_false_iff_ne]; omega
    clear ha hb hl
    go_enter Tryz.func112, Tryz.ntmps112
    go_wp2_with fail
    go_ret
    exact ⟨by rw [HE.out]; rfl, 0, rfl⟩
  have HL := Lib.hid hl
  have hlb : a.length ≤ b.length := by omega
  rw [← hl]
  clear hl
  go_enter Tryz.func112, Tryz.ntmps112
  go_wp2_with fail
  go_loopw [5] (fun i wr => ∃ k : Nat, k ≤ a.length ∧ i = .int .i64 k ∧ Below w.heap.size w wr ∧ Hid (∃ m, wr = w.drewN m) ∧ Hid (∀ j x y, j < k → a[j]? = some x → b[j]? = some y → x = y)) (fun i _ => a.length - (intOf i).toNat)
  case atStart => exact ⟨0, Nat.zero_le _, rfl, Below.refl _ _, ⟨0, rfl⟩, fun j x y hj => absurd hj (Nat.not_lt_zero _)⟩
  case round =>
    obtain ⟨k, hk, rfl, hbr, HM, HA⟩ := hrel
    by_cases hlt : k < a.length
    · obtain ⟨x, hx⟩ : ∃ d, a[k]? = some d := ⟨_, List.getElem?_eq_getElem hlt⟩
      obtain ⟨y, hy⟩ : ∃ d, b[k]? = some d := ⟨_, List.getElem?_eq_getElem (by omega)⟩
      have hlt' : (k : Int) < (a.length : Int) := by omega
      obtain ⟨b1, o1, rfl, _, x0, x1, x2, x3⟩ := prp_at (ha.below hbr) hx
      obtain ⟨b2, o2, rfl, _, y0, y1, y2, y3⟩ := prp_at (hb.below hbr) hy
      have hneq := prp_neq x y
      have hgd := prp_guard
      have HX := Lib.hid hx
      have HY := Lib.hid hy
      clear hx hy
      by_cases hq : x = y
      · have HS : Hid (∀ j x y, j < k + 1 → a[j]? = some x → b[j]? = some y → x = y) := fun j p q hj hp hq2 => by
          by_cases hjk : j = k
          · subst hjk
            have e1 := HX.out.symm.trans hp
            have e2 := HY.out.symm.trans hq2
            injection e1 with e1; injection e2 with e2
            rw [← e1, ← e2]; exact hq
          · exact HA.out j p q (by omega) hp hq2
        rw [decide_eq_true hq] at hneq
        clear ha hb hq
        go_wp2_with fail
        go_quiet (fail)
        go_wp2_with fail
        go_roundw
        case rel => exact ⟨k + 1, by omega, by go_num, below_drewN hbr _, drewN_step HM.out nq, HS⟩
        case measure => simp [intOf]; omega
      · have HE : Hid (decide (a = b) = false) := decide_eq_false fun e => by
          have e1 := HX.out
          rw [e, HY.out] at e1
          injection e1 with e1
          exact hq e1.symm
        rw [decide_eq_false hq] at hneq
        clear ha hb hq
        go_wp2_with fail
        go_quiet (fail)
        go_wp2_with fail
        go_ret
        exact ⟨by rw [HE.out]; rfl, drewN_step HM.out nq⟩
    · obtain rfl : k = a.length := by omega
      have HE : Hid (decide (a = b) = true) := decide_eq_true (lists_eq HL.out HA.out)
      clear ha hb
      go_wp2_with fail
      go_ret
      exact ⟨by rw [HE.out]; rfl, HM.out⟩
theorem srecord_any (a b : List Prp) (va vb : Value) (w : World) (ha : Sl prpL w va a) (hb : Sl prpL w vb b) : Calls Tryz.prog 112 #[va, vb] w fun e w' => e = .returned (.bool (decide (a = b))) ∧ Below w.heap.size w w' :=
  (srecord_any_q a b va vb w ha hb).mono fun _ _ ⟨h, m, hm⟩ => ⟨h, by rw [hm]; exact below_drewN (Below.refl _ _) m⟩
/-! ### Two nodes -/

theorem nod_eqB (a b : Nod) : decide (a = b) = (decide (a.props = b.props) && decide (a.id = b.id) && decide (a.kind = b.kind)) := by
  cases a; cases b
  simp only [Nod.mk.injEq]
  rename_i i k p i' k' p'
  by_cases h1 : i = i' <;> by_cases h2 : k = k' <;> by_cases h3 : p = p' <;> simp [h1, h2, h3]
set_option maxHeartbeats 2000000 in
theorem snode_any (a b : Nod) (u1 u2 : Value) (w : World) (f1 : Sl prpL w u1 a.props) (f2 : Sl prpL w u2 b.props) :
    Calls Tryz.prog 52 #[.agg #[.int .i64 a.id, .string a.kind, u1], .agg #[.int .i64 b.id, .string b.kind, u2]] w fun e w' => e = .returned (.bool (decide (a = b))) ∧ Below w.heap.size w w' := by
  obtain ⟨A1, c1, rfl, _, _⟩ := f1.form
  obtain ⟨A2, c2, rfl, _, _⟩ := f2.form
  obtain ⟨W0, hW0⟩ : ∃ W0, W0 = (w.alloc (.cells #[.int .i64 a.id, .string a.kind, .slice A1 a.props.length c1] 29)).alloc (.cells #[.int .i64 b.id, .string b.kind, .slice A2 b.props.length c2] 29) := ⟨_, rfl⟩
  have hb0 : Below w.heap.size w W0 := by rw [hW0]; exact ((Below.refl _ _).alloc (Nat.le_refl _) _).alloc (by simp) _
  have g0 : W0.heap[w.heap.size]? = some (.cells #[.int .i64 a.id, .string a.kind, .slice A1 a.props.length c1] 29 (0, 0)) := by
    rw [hW0, Below.heap_alloc _ _ _ (by simp)]; exact heap_alloc_new _ _
  have g1 : W0.heap[w.heap.size + 1]? = some (.cells #[.int .i64 b.id, .string b.kind, .slice A2 b.props.length c2] 29 (0, 0)) := by
    have := heap_alloc_new (w.alloc (.cells #[.int .i64 a.id, .string a.kind, .slice A1 a.props.length c1] 29)) (.cells #[.int .i64 b.id, .string b.kind, .slice A2 b.props.length c2] 29); rw [hW0]; simpa using this
  have hW0' := hW0.symm
  have hw0 := hb0.size
  have x0 := block_cell g0 0
  have x1 := block_cell g0 1
  have x2 := block_cell g0 2
  have y0 := block_cell g1 0
  have y1 := block_cell g1 1
  have y2 := block_cell g1 2
  have hr := srecord_any a.props b.props _ _ W0 (f1.below hb0) (f2.below hb0)
  have HF := Lib.hid (nod_eqB a b)
  have hkb : (a.kind.toList == b.kind.toList) = decide (a.kind = b.kind) := bytes_beq a.kind b.kind
  clear f1 f2 g0 g1 hW0
  generalize decide (a.props = b.props) = q at *
  generalize decide (a = b) = E at *
  go_enter Tryz.func52, Tryz.ntmps52
  go_wp2_with fail
  clear hW0'
  refine hr.mono ?_
  clear hr
  rintro e w1 ⟨rfl, hb1⟩
  have x0 := cell_below hb1 x0
  have x1 := cell_below hb1 x1
  have y0 := cell_below hb1 y0
  have y1 := cell_below hb1 y1
  have hBX := hb0.trans (hb1.mono hw0)
  clear x2 y2 hb1 hb0
  cases q with
  | false =>
    have HE : Hid (E = false) := by unfold Hid; rw [HF.out]; rfl
    clear HF
    go_wp2_with fail
    go_ret
    exact ⟨by rw [HE.out]; rfl, hBX⟩
  | true =>
    by_cases h1 : a.id = b.id
    case neg =>
      have HE : Hid (E = false) := by unfold Hid; rw [HF.out, decide_eq_false h1]; rfl
      have h1b : (a.id == b.id) = false := by rw [beq_eq_false_iff_ne]; exact h1
      clear HF h1
      go_wp2_with fail
      go_ret
      exact ⟨by rw [HE.out]; rfl, hBX⟩
    have h1b : (a.id == b.id) = true := by rw [beq_iff_eq]; exact h1
    by_cases h2 : a.kind = b.kind
    · have HE : Hid (E = true) := by unfold Hid; rw [HF.out, decide_eq_true h1, decide_eq_true h2]; rfl
      rw [decide_eq_true h2] at hkb
      have hkc : a.kind.toList = b.kind.toList := by rw [h2]
      clear HF h1 h2
      go_wp2_with fail
      go_ret
      exact ⟨by rw [HE.out]; rfl, hBX⟩
    · have HE : Hid (E = false) := by unfold Hid; rw [HF.out, decide_eq_true h1, decide_eq_false h2]; rfl
      rw [decide_eq_false h2] at hkb
      have hkc : ¬ a.kind.toList = b.kind.toList := by rw [bytes_eq]; exact h2
      clear HF h1 h2
      go_wp2_with fail
      go_ret
      exact ⟨by rw [HE.out]; rfl, hBX⟩
end Go.Proofs.YtngbbefpphinjaaGreatDoor

/- Plain: a graph that stays where a box of a graph is written. No condition. -/
namespace Go.Proofs.YtngbbefpphinjaaGreatDoor
open Go Go.RowKit

end Go.Proofs.YtngbbefpphinjaaGreatDoor

/- Plain: all old blocks but one are as they were. No condition. -/
namespace Go.Proofs.YtngbbefpphinjaaGreatDoor
open Go Go.RowKit

/-- All old blocks but b are as they were. -/
structure Kp (b : Nat) (w w' : World) : Prop where
  s : w.heap.size ≤ w'.heap.size
  k : ∀ k, k < w.heap.size → k ≠ b → w'.heap[k]? = w.heap[k]?
theorem Kp.refl (b : Nat) (w : World) : Kp b w w := ⟨Nat.le_refl _, fun _ _ _ => rfl⟩
theorem Kp.below {b : Nat} {w w' w'' : World} (h : Kp b w w') (hb : Below w'.heap.size w' w'') : Kp b w w'' :=
  ⟨Nat.le_trans h.s hb.size, fun k h1 h2 => (hb.block k (Nat.lt_of_lt_of_le h1 h.s)).trans (h.k k h1 h2)⟩
theorem Kp.set {b : Nat} {w w' : World} (h : Kp b w w') (i : Nat) (u : Value) : Kp b w (w'.setCell ⟨b, i, none⟩ u) :=
  ⟨by simpa [World.setCell] using h.s, fun k h1 h2 => (Below.heap_setCell w' ⟨b, i, none⟩ u k h2).trans (h.k k h1 h2)⟩
theorem Kp.grown {b : Nat} {w w' w'' : World} (h : Kp b w w') {e : TypeId} {sz n : Nat} {v : Value} {xs : List Value} (ho : Own w' w.heap.size e sz v n xs) (hg : w'.grownBy w'' v.ownBlock) : Kp b w w'' :=
  ⟨Nat.le_trans h.s hg.size, fun k h1 h2 => (hg.block k (Nat.lt_of_lt_of_le h1 h.s) fun e' => by have := (ho.lt k e'.symm).1; omega).trans (h.k k h1 h2)⟩
end Go.Proofs.YtngbbefpphinjaaGreatDoor

/- Plain: a graph that is built in a box, piece by piece, beside boxes that stay. No condition. -/
namespace Go.Proofs.YtngbbefpphinjaaGreatDoor
open Go Go.RowKit

/-- The graph's box is block bu; all else that was there stays. -/
structure RdS (w W0 : World) (bu : Nat) (wX : World) (vn vt : Value) : Prop where
  k : Kp bu W0 wX
  b : Below w.heap.size w wX
  q : wX.heap[bu]? = some (.cells #[vn, vt] 25 (0, 0))
  u : w.heap.size ≤ bu
section
variable {w W0 wX wY : World} {bu : Nat} {vn vt : Value}
theorem RdS.below (h : RdS w W0 bu wX vn vt) (hb : Below wX.heap.size wX wY) : RdS w W0 bu wY vn vt :=
  ⟨h.k.below hb, h.b.trans (hb.mono h.b.size), (hb.block _ (Array.getElem?_eq_some_iff.1 h.q).1).trans h.q, h.u⟩
theorem RdS.old (h : RdS w W0 bu wX vn vt) {k : Nat} {o : Obj} (hk : W0.heap[k]? = some o) (hne : k ≠ bu) : wX.heap[k]? = some o := (h.k.k k (Array.getElem?_eq_some_iff.1 hk).1 hne).trans hk
theorem RdS.setN (h : RdS w W0 bu wX vn vt) (u : Value) : RdS w W0 bu (wX.setCell ⟨bu, 0, none⟩ u) u vt := ⟨h.k.set 0 u, h.b.setCell (p := ⟨bu, 0, none⟩) h.u u, setCell_block h.q 0 u, h.u⟩
theorem RdS.setT (h : RdS w W0 bu wX vn vt) (u : Value) : RdS w W0 bu (wX.setCell ⟨bu, 1, none⟩ u) vn u := ⟨h.k.set 1 u, h.b.setCell (p := ⟨bu, 1, none⟩) h.u u, setCell_block h.q 1 u, h.u⟩
theorem RdS.same (h : RdS w W0 bu wX vn vt) (i : Nat) (u : Value) {T : TypeId} (hT : 25 ≠ T) : Same T wX (wX.setCell ⟨bu, i, none⟩ u) := Same.setCell (p := ⟨bu, i, none⟩) h.q hT u
theorem RdS.grown (h : RdS w W0 bu wX vn vt) {e : TypeId} {sz n : Nat} {v : Value} {xs : List Value} (ho : Own wX W0.heap.size e sz v n xs) (hw : w.heap.size ≤ W0.heap.size) (hne : 25 ≠ e) (hg : wX.grownBy wY v.ownBlock) : RdS w W0 bu wY vn vt :=
  ⟨h.k.grown ho hg, h.b.grown hg h.b.size (fun k e => Nat.le_trans hw (ho.lt k e).1), grown_block hg h.q (ho.ne_block h.q hne), h.u⟩
theorem RdS.cellAt (h : RdS w W0 bu wX vn vt) {p : Addr} (h1 : W0.heap.size ≤ p.block) (h2 : p.block ≠ bu) (hw : w.heap.size ≤ W0.heap.size) (u : Value) : RdS w W0 bu (wX.setCell p u) vn vt :=
  ⟨⟨by simpa [World.setCell] using h.k.s, fun k hk hne => (Below.heap_setCell wX p u k (by omega)).trans (h.k.k k hk hne)⟩, h.b.setCell (p := p) (Nat.le_trans hw h1) u, (Below.heap_setCell wX p u bu (Ne.symm h2)).trans h.q, h.u⟩
end
end Go.Proofs.YtngbbefpphinjaaGreatDoor

/- Plain facts for the walk of the reference kinref1.Do: cuts of rows, cells of them; what an op makes. -/
namespace Go.Proofs.YtngbbefpphinjaaGreatDoor
open Go Go.RowKit

/-- What stays where graphs' boxes are written: what was there at the base, and all blocks of other types. -/
def Stay (w0 w w' : World) : Prop := Below w0.heap.size w0 w' ∧ ∀ T, 25 ≠ T → Same T w w'
theorem Stay.refl {w0 w : World} (h : Below w0.heap.size w0 w) : Stay w0 w w := ⟨h, fun _ _ => Same.refl _ _⟩
theorem Stay.from {w0 w w1 w' : World} (h : Stay w0 w1 w') (hb : Below w.heap.size w w1) : Stay w0 w w' := ⟨h.1, fun T hT => (Same.below hb).trans (h.2 T hT)⟩
/-- A row that stays where graphs' boxes are written. -/
def SlS {D : Type} (L : Lay D) (w0 w : World) (v : Value) (l : List D) : Prop := ∃ A c xs, v = .slice A l.length c ∧ l.length ≤ c ∧ c ≤ maxLen ∧ ∀ w', Stay w0 w w' → Row L w' l xs ∧ (0 < l.length → ∃ b o, A = some ⟨b, o, none⟩ ∧ ∀ j u, xs[j]? = some u → w'.cell? ⟨b, o + j, none⟩ = some u)
def GrfS (w0 w : World) (vn vt : Value) (g : Grf) : Prop := SlS nodL w0 w vn g.nodes ∧ SlS tieL w0 w vt g.ties
section
variable {D : Type} {L : Lay D} {w0 w w1 : World} {v : Value} {l : List D}
theorem SlS.sl (h : SlS L w0 w v l) (hb : Below w0.heap.size w0 w) : Sl L w v l := by
  obtain ⟨A, c, xs, rfl, h1, h2, h3⟩ := h
  obtain ⟨hr, hc⟩ := h3 w (Stay.refl hb)
  refine ⟨A, c, rfl, h1, h2, fun i d hi => ?_⟩
  obtain ⟨b, o, rfl, hx⟩ := hc (len_pos hi)
  obtain ⟨cs, hcs, hj⟩ := hr.get hi
  refine ⟨b, o, cs, rfl, hcs, fun j u hu => ?_⟩
  exact (Nat.add_assoc o (i * L.sz) j).symm ▸ hx _ u (hj j u hu)
theorem SlS.stay (h : SlS L w0 w v l) (hs : ∀ w', Stay w0 w1 w' → Stay w0 w w') : SlS L w0 w1 v l := by
  obtain ⟨A, c, xs, rfl, h1, h2, h3⟩ := h
  exact ⟨A, c, xs, rfl, h1, h2, fun w' hw => h3 w' (hs w' hw)⟩
theorem SlS.nil (w0 w : World) : SlS L w0 w (.slice none 0 0) [] := ⟨none, 0, [], rfl, Nat.le_refl _, Nat.zero_le _, fun _ _ => ⟨rfl, fun h => absurd h (Nat.lt_irrefl _)⟩⟩
theorem Own.slS {B : Nat} {e : TypeId} {xs : List Value} (h : Own w B e L.sz v l.length xs) (hne : 25 ≠ e) (hr : ∀ w', Stay w0 w w' → Row L w' l xs) : SlS L w0 w v l := by
  obtain ⟨A, c, rfl, h1, h2⟩ := h.form
  refine ⟨A, c, xs, rfl, h1, h2, fun w' hw => ⟨hr w' hw, fun hn => ?_⟩⟩
  have h' := h.same (hw.2 e hne)
  obtain ⟨b, o, c', hv, _, _⟩ := h'.addr hn
  injection hv with hA _ hc
  subst hA; subst hc
  exact ⟨b, o, rfl, fun j u hj => h'.cell rfl hj⟩
theorem Sl.slS (h : Sl L w0 v l) : SlS L w0 w v l := by
  obtain ⟨A, c, rfl, h1, h2⟩ := h.form
  obtain ⟨xs, hr, hc⟩ := Row.of_sl h
  refine ⟨A, c, xs, rfl, h1, h2, fun w' hw => ⟨hr.below hw.1, fun hn => ?_⟩⟩
  obtain ⟨b, o, hA, hx⟩ := hc hn
  exact ⟨b, o, hA, fun j u hj => cell_below hw.1 (hx j u hj)⟩
end
theorem flat_row {D : Type} {n : Nat} {ok : D → Prop} {enc : D → List Value} (hn : ∀ d, (enc d).length = n) {w : World} : ∀ {l : List D}, (∀ x ∈ l, ok x) → Row (flatL n ok enc hn) w l (l.flatMap enc)
  | [], _ => rfl
  | d :: l, h => ⟨enc d, l.flatMap enc, by simp, ⟨rfl, h d (by simp)⟩, flat_row hn fun x hx => h x (by simp [hx])⟩
theorem GrfS.r {w0 w : World} {vn vt : Value} {g : Grf} (h : GrfS w0 w vn vt g) (hb : Below w0.heap.size w0 w) : GrfR w vn vt g := ⟨h.1.sl hb, h.2.sl hb⟩
theorem GrfR.s {w0 w : World} {vn vt : Value} {g : Grf} (h : GrfR w0 vn vt g) : GrfS w0 w vn vt g := ⟨h.1.slS, h.2.slS⟩
theorem GrfS.stay {w0 w w1 : World} {vn vt : Value} {g : Grf} (h : GrfS w0 w vn vt g) (hs : ∀ w', Stay w0 w1 w' → Stay w0 w w') : GrfS w0 w1 vn vt g := ⟨h.1.stay hs, h.2.stay hs⟩
/-- A graph and a number. -/
def RetGI (w0 : World) (g : Grf) (n : Int) (w : World) (e : Ending) (w' : World) : Prop := ∃ vn vt, e = .returned (.tuple #[.agg #[vn, vt], .int .i64 n]) ∧ GrfS w0 w' vn vt g ∧ Below w.heap.size w w'
theorem nodT_info : (Tryz.prog.info? 29).map (fun i => (i.zero, i.size, i.bytes)) = some (some (.agg #[.int .i64 0, .string .empty, .slice none 0 0]), 3, 48) := by kernel_rfl
theorem tieT_info : (Tryz.prog.info? 35).map (fun i => (i.zero, i.size, i.bytes)) = some (some (.agg #[.string .empty, .int .i64 0, .int .i64 0]), 3, 32) := by kernel_rfl
theorem cut_headN (A : Option Addr) (c n k : Nat) (hk : k ≤ c) (W : World) : (Instr.slice 22 (.slice A n c) none (some (.int .i64 (k : Int))) none).run Tryz.prog W = .ok (.slice A k c) W := by
  have hs : (sizeOf (Tryz.prog.elem (22))).run Tryz.prog W = .ok 3 W := by kernel_rfl
  rw [run_slice_h _ _ _ _ _ (by kernel_rfl) .i64 (k : Int) (by omega) (by omega), hs]
  simp only [Result.andThen, sliced, Nat.zero_mul, Nat.sub_zero, Int.toNat_natCast]
  have : (if c = 0 then A else A.map (fun a => a.add 0)) = A := by
    split
    · rfl
    · cases A with
      | none => rfl
      | some a => simp [Addr.add]
  rw [this]
theorem cut_tailN (A : Option Addr) (c n k : Nat) (hk : k ≤ n) (W : World) : (Instr.slice 22 (.slice A n c) (some (.int .i64 (k : Int))) none none).run Tryz.prog W = .ok (.slice (if c = k then A else A.map (fun a => a.add (k * 3))) (n - k) (c - k)) W := by
  have hs : (sizeOf (Tryz.prog.elem (22))).run Tryz.prog W = .ok 3 W := by kernel_rfl
  rw [run_slice_l _ _ _ _ _ (by kernel_rfl) .i64 (k : Int) (by omega) (by omega), hs]
  simp only [Result.andThen, sliced, Int.toNat_natCast]
theorem cut_headT (A : Option Addr) (c n k : Nat) (hk : k ≤ c) (W : World) : (Instr.slice 23 (.slice A n c) none (some (.int .i64 (k : Int))) none).run Tryz.prog W = .ok (.slice A k c) W := by
  have hs : (sizeOf (Tryz.prog.elem (23))).run Tryz.prog W = .ok 3 W := by kernel_rfl
  rw [run_slice_h _ _ _ _ _ (by kernel_rfl) .i64 (k : Int) (by omega) (by omega), hs]
  simp only [Result.andThen, sliced, Nat.zero_mul, Nat.sub_zero, Int.toNat_natCast]
  have : (if c = 0 then A else A.map (fun a => a.add 0)) = A := by
    split
    · rfl
    · cases A with
      | none => rfl
      | some a => simp [Addr.add]
  rw [this]
theorem cut_tailT (A : Option Addr) (c n k : Nat) (hk : k ≤ n) (W : World) : (Instr.slice 23 (.slice A n c) (some (.int .i64 (k : Int))) none none).run Tryz.prog W = .ok (.slice (if c = k then A else A.map (fun a => a.add (k * 3))) (n - k) (c - k)) W := by
  have hs : (sizeOf (Tryz.prog.elem (23))).run Tryz.prog W = .ok 3 W := by kernel_rfl
  rw [run_slice_l _ _ _ _ _ (by kernel_rfl) .i64 (k : Int) (by omega) (by omega), hs]
  simp only [Result.andThen, sliced, Int.toNat_natCast]
/-- What is behind a place of a row that lies somewhere. -/
theorem tail_cells {w : World} {A : Option Addr} {n c k : Nat} {xs : List Value} (hx : 0 < n → ∃ b o, A = some ⟨b, o, none⟩ ∧ ∀ j u, xs[j]? = some u → w.cell? ⟨b, o + j, none⟩ = some u) (hnc : n ≤ c) (hk : k ≤ n) :
    0 < n - k → ∃ a, (if c = k then A else A.map (fun a => a.add (k * 3))) = some a ∧ ∀ j u, (xs.drop (k * 3))[j]? = some u → w.cell? (a.add j) = some u := fun h => by
  obtain ⟨b, o, rfl, hc⟩ := hx (by omega)
  rw [if_neg (by omega)]
  refine ⟨_, rfl, fun j u hj => ?_⟩
  rw [List.getElem?_drop] at hj
  show w.cell? (((⟨b, o, none⟩ : Addr).add (k * 3)).add j) = some u
  rw [addr_add, addr_add]
  have := hc _ u hj
  rwa [← Nat.add_assoc] at this
theorem head_cells {w : World} {A : Option Addr} {n k : Nat} {xs : List Value} (hx : 0 < n → ∃ b o, A = some ⟨b, o, none⟩ ∧ ∀ j u, xs[j]? = some u → w.cell? ⟨b, o + j, none⟩ = some u) (hk : k ≤ n) :
    0 < k → ∃ a, A = some a ∧ ∀ j u, (xs.take (k * 3))[j]? = some u → w.cell? (a.add j) = some u := fun h => by
  obtain ⟨b, o, rfl, hc⟩ := hx (by omega)
  refine ⟨_, rfl, fun j u hj => ?_⟩
  rw [List.getElem?_take] at hj
  split at hj
  · rw [addr_add]; exact hc j u hj
  · cases hj
theorem doE_right {g : Grf} (h : grfE g = 0) (o : Opr) : doE g o = opE g o ∧ (opE g o ≠ 0 → doG g o = ⟨[], []⟩) ∧ (opE g o = 0 → doG g o = opG g o) := by
  have e : doE g o = opE g o := by unfold doE; rw [if_pos h]
  exact ⟨e, fun h => by unfold doG; rw [if_neg (by rw [e]; exact h)], fun h => by unfold doG; rw [if_pos (by rw [e]; exact h)]⟩
theorem born_parts (g : Grf) (node : Nod) (prop : Prp) (tie : Tie) (h : grfE g = 0) : (nodE node ≠ 0 → doE g ⟨1, node, prop, tie⟩ = nodE node ∧ doG g ⟨1, node, prop, tie⟩ = ⟨[], []⟩) ∧ (nodE node = 0 → fhas g.nodes node.id = true → doE g ⟨1, node, prop, tie⟩ = 7 ∧ doG g ⟨1, node, prop, tie⟩ = ⟨[], []⟩) ∧
    (nodE node = 0 → fhas g.nodes node.id = false → 60 ≤ g.nodes.length → doE g ⟨1, node, prop, tie⟩ = 4 ∧ doG g ⟨1, node, prop, tie⟩ = ⟨[], []⟩) ∧
    (nodE node = 0 → fhas g.nodes node.id = false → ¬ 60 ≤ g.nodes.length → doE g ⟨1, node, prop, tie⟩ = 0 ∧ doG g ⟨1, node, prop, tie⟩ = ⟨g.nodes.take (fpos g.nodes node.id) ++ node :: g.nodes.drop (fpos g.nodes node.id), g.ties⟩) := by
  obtain ⟨d1, d2, d3⟩ := doE_right h ⟨1, node, prop, tie⟩
  have e : opE g ⟨1, node, prop, tie⟩ = bornE g node := by unfold opE; rw [if_pos rfl]
  have eG : opG g ⟨1, node, prop, tie⟩ = bornG g node := by unfold opG; rw [if_pos rfl]
  refine ⟨fun hn => ?_, fun hn hf => ?_, fun hn hf hl => ?_, fun hn hf hl => ?_⟩
  · have h1 : opE g ⟨1, node, prop, tie⟩ = nodE node := by rw [e]; unfold bornE; rw [if_neg hn]
    exact ⟨by rw [d1, h1], d2 (by rw [h1]; exact hn)⟩
  · have h1 : opE g ⟨1, node, prop, tie⟩ = 7 := by rw [e]; unfold bornE; rw [if_pos hn, if_pos hf]
    exact ⟨by rw [d1, h1], d2 (by rw [h1]; omega)⟩
  · have h1 : opE g ⟨1, node, prop, tie⟩ = 4 := by rw [e]; unfold bornE; rw [if_pos hn, if_neg (by rw [hf]; simp), if_pos hl]
    exact ⟨by rw [d1, h1], d2 (by rw [h1]; omega)⟩
  · have h1 : opE g ⟨1, node, prop, tie⟩ = 0 := by rw [e]; unfold bornE; rw [if_pos hn, if_neg (by rw [hf]; simp), if_neg hl]
    exact ⟨by rw [d1, h1], by rw [d3 h1, eG]; rfl⟩
theorem low_at {D : Type} {c : D → Int} {l : List D} {d : D} (h : l[lowI c l]? = some d) : 0 ≤ c d := by
  obtain ⟨hl, rfl⟩ := List.getElem?_eq_some_iff.1 h
  have := List.findIdx_getElem (xs := l) (p := fun d => decide (0 ≤ c d)) (w := hl)
  exact of_decide_eq_true this
/-- A node of a row is another one. -/
theorem Row.put3 {w : World} {d' : Nod} {a b c : Value} (hc : nodL.cells w d' [a, b, c]) : ∀ {l : List Nod} {xs : List Value} {i : Nat} {d : Nod}, Row nodL w l xs → l[i]? = some d → Row nodL w (l.set i d') (((xs.set (i * 3) a).set (i * 3 + 1) b).set (i * 3 + 2) c)
  | [], xs, i, d, h, hi => by simp at hi
  | e :: l, xs, 0, d, h, hi => by
    obtain ⟨cs, ys, rfl, ⟨v, rfl, _⟩, h5⟩ := h
    exact ⟨[a, b, c], ys, rfl, hc, h5⟩
  | e :: l, xs, i + 1, d, h, hi => by
    obtain ⟨cs, ys, rfl, ⟨v, rfl, h1⟩, h5⟩ := h
    have ih := Row.put3 hc h5 (by simpa using hi)
    have e0 : (i + 1) * 3 = i * 3 + 1 + 1 + 1 := by omega
    have e1 : (i + 1) * 3 + 1 = i * 3 + 1 + 1 + 1 + 1 := by omega
    have e2 : (i + 1) * 3 + 2 = i * 3 + 2 + 1 + 1 + 1 := by omega
    rw [e2, e1, e0]
    exact ⟨_, ((ys.set (i * 3) a).set (i * 3 + 1) b).set (i * 3 + 2) c, rfl, ⟨v, rfl, h1⟩, ih⟩
end Go.Proofs.YtngbbefpphinjaaGreatDoor

/- Contract of the reference: kinref1.Do at an op that makes a node. -/
namespace Go.Proofs.YtngbbefpphinjaaGreatDoor
open Go Go.RowKit



set_option maxRecDepth 100000 in
set_option maxHeartbeats 32000000 in
theorem rdo_new (g : Grf) (node : Nod) (prop : Prp) (tie : Tie) (vn vt : Value) (Ar : Option Addr) (cr : Nat) (w0 w : World) (hbw0 : Below w0.heap.size w0 w) (hgs : GrfS w0 w vn vt g) (ho : OprR w0 (.slice Ar node.props.length cr) ⟨1, node, prop, tie⟩) (h0 : grfE g = 0) :
    Calls Tryz.prog 8 #[.agg #[vn, vt], .agg #[.int .i64 1, .int .i64 node.id, .string node.kind, .slice Ar node.props.length cr, .string prop.name, .int .i64 prop.v.ty, .int .i64 prop.v.n, .string prop.v.s, .string tie.bond, .int .i64 tie.src, .int .i64 tie.dst]] w (RetGI w0 (doG g ⟨1, node, prop, tie⟩) (doE g ⟨1, node, prop, tie⟩) w) := by
  have hg := hgs.r hbw0
  have HGS := Lib.hid hgs
  have HBW := Lib.hid hbw0
  have hobase := ho
  have ho := hobase.below hbw0
  have HOB := Lib.hid hobase
  clear hobase hgs hbw0
  obtain ⟨A1, c1, rfl, _, _⟩ := hg.1.form
  obtain ⟨A2, c2, rfl, _, _⟩ := hg.2.form
  obtain ⟨W0, hW0⟩ : ∃ W0, W0 = (((w.alloc (.cells #[.slice A1 g.nodes.length c1, .slice A2 g.ties.length c2] 25)).alloc (.cells #[.int .i64 1, .int .i64 node.id, .string node.kind, .slice Ar node.props.length cr, .string prop.name, .int .i64 prop.v.ty, .int .i64 prop.v.n, .string prop.v.s, .string tie.bond, .int .i64 tie.src, .int .i64 tie.dst] 37)).alloc (.cells #[.slice none 0 0, .slice none 0 0] 25)).alloc (.cells #[.slice none 0 0, .slice none 0 0] 25) := ⟨_, rfl⟩
  have hb0 : Below w.heap.size w W0 := by rw [hW0]; exact ((((Below.refl _ _).alloc (Nat.le_refl _) _).alloc (by simp only [World.size_alloc]; omega) _).alloc (by simp only [World.size_alloc]; omega) _).alloc (by simp only [World.size_alloc]; omega) _
  have g0 : W0.heap[w.heap.size]? = some (.cells #[.slice A1 g.nodes.length c1, .slice A2 g.ties.length c2] 25 (0, 0)) := by
    rw [hW0, Below.heap_alloc _ _ _ (by simp only [World.size_alloc]; omega), Below.heap_alloc _ _ _ (by simp only [World.size_alloc]; omega), Below.heap_alloc _ _ _ (by simp only [World.size_alloc]; omega)]; exact heap_alloc_new _ _
  have g1 : W0.heap[w.heap.size + 1]? = some (.cells #[.int .i64 1, .int .i64 node.id, .string node.kind, .slice Ar node.props.length cr, .string prop.name, .int .i64 prop.v.ty, .int .i64 prop.v.n, .string prop.v.s, .string tie.bond, .int .i64 tie.src, .int .i64 tie.dst] 37 (0, 0)) := by
    have := heap_alloc_new (w.alloc (.cells #[.slice A1 g.nodes.length c1, .slice A2 g.ties.length c2] 25)) (.cells #[.int .i64 1, .int .i64 node.id, .string node.kind, .slice Ar node.props.length cr, .string prop.name, .int .i64 prop.v.ty, .int .i64 prop.v.n, .string prop.v.s, .string tie.bond, .int .i64 tie.src, .int .i64 tie.dst] 37); rw [hW0, Below.heap_alloc _ _ _ (by simp only [World.size_alloc]; omega), Below.heap_alloc _ _ _ (by simp only [World.size_alloc]; omega)]; simpa using this
  have g2 : W0.heap[w.heap.size + 1 + 1]? = some (.cells #[.slice none 0 0, .slice none 0 0] 25 (0, 0)) := by
    have := heap_alloc_new ((w.alloc (.cells #[.slice A1 g.nodes.length c1, .slice A2 g.ties.length c2] 25)).alloc (.cells #[.int .i64 1, .int .i64 node.id, .string node.kind, .slice Ar node.props.length cr, .string prop.name, .int .i64 prop.v.ty, .int .i64 prop.v.n, .string prop.v.s, .string tie.bond, .int .i64 tie.src, .int .i64 tie.dst] 37)) (.cells #[.slice none 0 0, .slice none 0 0] 25); rw [hW0, Below.heap_alloc _ _ _ (by simp only [World.size_alloc]; omega)]; simpa using this
  have g3 : W0.heap[w.heap.size + 1 + 1 + 1]? = some (.cells #[.slice none 0 0, .slice none 0 0] 25 (0, 0)) := by
    have := heap_alloc_new (((w.alloc (.cells #[.slice A1 g.nodes.length c1, .slice A2 g.ties.length c2] 25)).alloc (.cells #[.int .i64 1, .int .i64 node.id, .string node.kind, .slice Ar node.props.length cr, .string prop.name, .int .i64 prop.v.ty, .int .i64 prop.v.n, .string prop.v.s, .string tie.bond, .int .i64 tie.src, .int .i64 tie.dst] 37)).alloc (.cells #[.slice none 0 0, .slice none 0 0] 25)) (.cells #[.slice none 0 0, .slice none 0 0] 25); rw [hW0]; simpa using this
  have hW0' := hW0.symm
  have hw0 := hb0.size
  obtain ⟨k1, k2, k3, k4⟩ := grf_ok h0
  have hx := rgfind_any g _ _ node.id W0 (hg.below hb0)
  rw [idx_nod k3] at hx
  have x0 := block_cell g0 0
  have x1 := block_cell g0 1
  have o0 := block_cell g1 0
  have o1 := block_cell g1 1
  have o2 := block_cell g1 2
  have o3 := block_cell g1 3
  have G0 := Lib.hid g0
  have G1 := Lib.hid g1
  have G2 := Lib.hid g2
  have G3 := Lib.hid g3
  have HGW := Lib.hid hg
  have HOW := Lib.hid ho
  have HG := Lib.hid (hg.below hb0)
  have HO := Lib.hid (ho.below hb0)
  generalize hfz : (if fhas g.nodes node.id = true then (fpos g.nodes node.id : Int) else -1) = fz at *
  have HFZ := Lib.hid hfz
  clear hg ho g0 g1 g2 g3 hW0 hfz
  go_enter Tryz.func8, Tryz.ntmps8
  go_wp2_with fail
  clear hW0'
  refine hx.mono ?_
  clear hx
  rintro e w1 ⟨rfl, hb1⟩
  have hB1 := hb0.trans (hb1.mono hw0)
  have m1 := (hb1.block _ (Array.getElem?_eq_some_iff.1 G1.out).1).trans G1.out
  have o0 := block_cell m1 0
  have o1 := block_cell m1 1
  have o2 := block_cell m1 2
  have o3 := block_cell m1 3
  have hx := rnode_any node (.slice Ar node.props.length cr) w1 HO.out.k (HO.out.r.below hb1)
  obtain ⟨b1, b2, b3, b4⟩ := born_parts g node prop tie h0
  have P1 := Lib.hid b1
  have P2 := Lib.hid b2
  have P3 := Lib.hid b3
  have P4 := Lib.hid b4
  have HFP : Hid (fpos g.nodes node.id ≤ g.nodes.length) := lowI_le _ _
  have HLO : Hid (∀ (k : Nat) (n : Nod), k < fpos g.nodes node.id → g.nodes[k]? = some n → n.id < node.id) := fun k n hk hn => cmpI_neg.1 (low_lt (c := nodC node.id) hk hn)
  have HHI : Hid (∀ n : Nod, g.nodes[fpos g.nodes node.id]? = some n → ¬ n.id < node.id) := fun n hn h => by
    have h1 := low_at (c := nodC node.id) hn
    have h2 := cmpI_neg.2 h
    unfold nodC at h1
    omega
  generalize doE g ⟨1, node, prop, tie⟩ = de at *
  generalize doG g ⟨1, node, prop, tie⟩ = dg at *
  clear b1 b2 b3 b4 h0 k3 k4
  go_wp2_with fail
  refine hx.mono ?_
  clear hx x0 x1 o0 o1 o2 o3
  rintro e w2 ⟨rfl, hb2⟩
  have hb12 := hb1.trans (hb2.mono hb1.size)
  have hB2 := hB1.trans (hb2.mono hB1.size)
  have m0 := (hb12.block _ (Array.getElem?_eq_some_iff.1 G0.out).1).trans G0.out
  have m1 := (hb12.block _ (Array.getElem?_eq_some_iff.1 G1.out).1).trans G1.out
  have m2 := (hb12.block _ (Array.getElem?_eq_some_iff.1 G2.out).1).trans G2.out
  have m3 := (hb12.block _ (Array.getElem?_eq_some_iff.1 G3.out).1).trans G3.out
  have x0 := block_cell m0 0
  have x1 := block_cell m0 1
  have o1 := block_cell m1 1
  have o2 := block_cell m1 2
  have o3 := block_cell m1 3
  clear m0 hb1 hb2 hB1
  by_cases hn : nodE node = 0
  case neg =>
    have hnb : (nodE node == 0) = false := by simpa using hn
    have hnb2 : (nodE node != 0) = true := by simpa using hn
    have HE := Lib.hid (P1.out hn)
    clear hn P1 P2 P3 P4
    have a0 := block_free m2 0
    have a1 := block_free m2 1
    have a2 := block_cell m2 0
    have a3 := block_cell m2 1
    have y0 := block_cell m3 0
    have y1 := block_cell m3 1
    have s2 := setCell_block (setCell_block m2 0 (.slice none 0 0)) 1 (.slice none 0 0)
    have hbX := (hB2.setCell (p := ⟨w.heap.size + 1 + 1, 0, none⟩) (by show w.heap.size ≤ w.heap.size + 1 + 1; omega) (.slice none 0 0)).setCell (p := ⟨w.heap.size + 1 + 1, 1, none⟩) (by show w.heap.size ≤ w.heap.size + 1 + 1; omega) (.slice none 0 0)
    have HS2 := Lib.hid s2
    clear s2 m2 m3
    go_wp2_with fail
    have k2' := block_cell HS2.out 0
    have k3' := block_cell HS2.out 1
    exact bodyPost_ret (v := .tuple #[.agg #[.slice none 0 0, .slice none 0 0], .int .i64 (nodE node)]) (by simp [results, Tryz.results8, go_sem, k2', k3']) rfl
      ⟨_, _, by rw [HE.out.1], by rw [HE.out.2]; exact ⟨SlS.nil _ _, SlS.nil _ _⟩, hbX⟩
  have hnb : (nodE node == 0) = true := by simpa using hn
  cases hf : fhas g.nodes node.id with
  | true =>
    have HE := Lib.hid (P2.out hn hf)
    have hz : fz = (fpos g.nodes node.id : Int) := by rw [← HFZ.out, hf]; rfl
    subst hz
    have hp : (0 : Int) ≤ (fpos g.nodes node.id : Int) := by omega
    rw [hn]
    clear hn hf HFZ P1 P2 P3 P4 hnb
    have a0 := block_free m2 0
    have a1 := block_free m2 1
    have a2 := block_cell m2 0
    have a3 := block_cell m2 1
    have y0 := block_cell m3 0
    have y1 := block_cell m3 1
    have s2 := setCell_block (setCell_block m2 0 (.slice none 0 0)) 1 (.slice none 0 0)
    have hbX := (hB2.setCell (p := ⟨w.heap.size + 1 + 1, 0, none⟩) (by show w.heap.size ≤ w.heap.size + 1 + 1; omega) (.slice none 0 0)).setCell (p := ⟨w.heap.size + 1 + 1, 1, none⟩) (by show w.heap.size ≤ w.heap.size + 1 + 1; omega) (.slice none 0 0)
    have HS2 := Lib.hid s2
    clear s2 m2 m3
    go_wp2_with fail
    have k2' := block_cell HS2.out 0
    have k3' := block_cell HS2.out 1
    exact bodyPost_ret (v := .tuple #[.agg #[.slice none 0 0, .slice none 0 0], .int .i64 (7)]) (by simp [results, Tryz.results8, go_sem, k2', k3']) rfl
      ⟨_, _, by rw [HE.out.1], by rw [HE.out.2]; exact ⟨SlS.nil _ _, SlS.nil _ _⟩, hbX⟩
  | false =>
    have hz : fz = -1 := by rw [← HFZ.out, hf]; rfl
    subst hz
    rw [hn]
    by_cases hl : 60 ≤ g.nodes.length
    · have HE := Lib.hid (P3.out hn hf hl)
      have hl' : (60 : Int) ≤ (g.nodes.length : Int) := by omega
      clear hn hf HFZ P1 P2 P3 P4 hl hnb
      have a0 := block_free m2 0
      have a1 := block_free m2 1
      have a2 := block_cell m2 0
      have a3 := block_cell m2 1
      have y0 := block_cell m3 0
      have y1 := block_cell m3 1
      have s2 := setCell_block (setCell_block m2 0 (.slice none 0 0)) 1 (.slice none 0 0)
      have hbX := (hB2.setCell (p := ⟨w.heap.size + 1 + 1, 0, none⟩) (by show w.heap.size ≤ w.heap.size + 1 + 1; omega) (.slice none 0 0)).setCell (p := ⟨w.heap.size + 1 + 1, 1, none⟩) (by show w.heap.size ≤ w.heap.size + 1 + 1; omega) (.slice none 0 0)
      have HS2 := Lib.hid s2
      clear s2 m2 m3
      go_wp2_with fail
      have k2' := block_cell HS2.out 0
      have k3' := block_cell HS2.out 1
      exact bodyPost_ret (v := .tuple #[.agg #[.slice none 0 0, .slice none 0 0], .int .i64 (4)]) (by simp [results, Tryz.results8, go_sem, k2', k3']) rfl
        ⟨_, _, by rw [HE.out.1], by rw [HE.out.2]; exact ⟨SlS.nil _ _, SlS.nil _ _⟩, hbX⟩
    · have HE := Lib.hid (P4.out hn hf (by omega))
      have hl' : ¬ (60 : Int) ≤ (g.nodes.length : Int) := by omega
      clear hn hf HFZ P1 P2 P3 P4 hnb
      have hfp := HFP.out
      -- the row's cells: 1: which part; nodL: its Lay
      obtain ⟨Arow, crow, xs, hvrow, _, _, hxall⟩ := HGS.out.1
      cases hvrow
      have hxs0 := hxall w (Stay.refl HBW.out)
      have HXR := Lib.hid hxs0.1
      have HXC := Lib.hid hxs0.2
      have HXS : Hid (∀ W', Stay w0 w W' → Row nodL W' _ xs) := fun W' hW => (hxall W' hW).1
      clear hxs0 hxall
      have M2 := Lib.hid m2
      have M3 := Lib.hid m3
      obtain ⟨n0, ni, nz, nz1, nz2⟩ := info_parts nodT_info
      clear m2 m3 m1
      go_upto_block 1 with fail
      go_cut [9] (fun v wx => v = .int .i64 (fpos g.nodes node.id) ∧ Below w2.heap.size w2 wx)
      case first =>
        go_wp2_with fail
        go_loopw [9] (fun i wr => ∃ k : Nat, k ≤ fpos g.nodes node.id ∧ i = .int .i64 k ∧ Below w2.heap.size w2 wr) (fun i _ => g.nodes.length - (intOf i).toNat)
        case atStart => exact ⟨0, Nat.zero_le _, rfl, Below.refl _ _⟩
        case round =>
          obtain ⟨k, hk, rfl, hbr⟩ := hrel
          have x0 := cell_below hbr x0
          have o1 := cell_below hbr o1
          have hb1r := hb12.trans (hbr.mono hb12.size)
          by_cases hkl : k < g.nodes.length
          · obtain ⟨n, hd⟩ : ∃ d, g.nodes[k]? = some d := ⟨_, List.getElem?_eq_getElem hkl⟩
            have hkl' : (k : Int) < (g.nodes.length : Int) := by omega
            obtain ⟨gb, oo, hA, un, _, _, _, q0, _, _⟩ := nod_at (HG.out.below hb1r).1 hd
            subst hA
            by_cases hkf : k < fpos g.nodes node.id
            · have hlo := HLO.out k n hkf hd
              have hlod : decide (n.id < node.id) = true := decide_eq_true hlo
              clear hd
              go_wp2_with fail
              go_quiet (fail)
              go_wp2_with fail
              go_roundw
              case rel => exact ⟨k + 1, by omega, by go_num, below_drewN hbr _⟩
              case measure => simp [intOf]; omega
            · have hke : k = fpos g.nodes node.id := by omega
              have hhi := HHI.out n (by rw [← hke]; exact hd)
              have hhid : decide (n.id < node.id) = false := decide_eq_false (by omega)
              have HKE := Lib.hid hke
              clear hd hke hhi hkf
              go_wp2_with fail
              go_quiet (fail)
              go_wp2_with fail
              go_meet
              exact ⟨by rw [HKE.out], below_drewN hbr _⟩
          · have hke : k = fpos g.nodes node.id := by omega
            have hkl' : ¬ (k : Int) < (g.nodes.length : Int) := by omega
            have hkld : decide ((k : Int) < (g.nodes.length : Int)) = false := decide_eq_false hkl'
            have HKE := Lib.hid hke
            have hkld2 : decide (k < g.nodes.length) = false := decide_eq_false hkl
            clear hke
            go_wp2_with fail
            go_quiet (fail)
            go_wp2_with fail
            go_meet
            exact ⟨by rw [HKE.out], below_drewN hbr _⟩
      case rest =>
      obtain ⟨rfl, hb23⟩ := hcut
      obtain ⟨w3, rfl⟩ : ∃ x : World, x = wc := ⟨_, rfl⟩
      have hb13 := hb12.trans (hb23.mono hb12.size)
      have hB3 := hB2.trans (hb23.mono hB2.size)
      have x0 := cell_below hb23 x0
      have x1 := cell_below hb23 x1
      have o1 := cell_below hb23 o1
      have o2 := cell_below hb23 o2
      have o3 := cell_below hb23 o3
      have M2 := Lib.hid ((hb23.block _ (Array.getElem?_eq_some_iff.1 M2.out).1).trans M2.out)
      have M3 := Lib.hid ((hb23.block _ (Array.getElem?_eq_some_iff.1 M3.out).1).trans M3.out)
      clear hb23 hB2 hb12 HLO HHI
      have HFPL : Hid (fpos g.nodes node.id ≤ g.nodes.length) := hfp
      generalize fpos g.nodes node.id = k at *
      have hk0 : (0 : Int) ≤ (k : Int) := by omega
      have hkc : (k : Int) ≤ (c1 : Int) := by omega
      have hkc2 : (k : Int) ≤ (g.nodes.length : Int) := by omega
      have y0 := block_cell M3.out 0
      have y1 := block_cell M3.out 1
      go_wp2_with fail
      have hsl := cut_headN A1 c1 g.nodes.length k (by omega)
      obtain ⟨B, hBe⟩ : ∃ B, B = W0.heap.size := ⟨_, rfl⟩
      have hxl : xs.length = g.nodes.length * 3 := HXR.out.len
      have HN1 : Hid ((xs.take (k * 3)).length = k * 3) := by unfold Hid; rw [List.length_take, hxl]; omega
      have HN3 : Hid ((xs.drop (k * 3)).length = (g.nodes.length - k) * 3) := by unfold Hid; rw [List.length_drop, hxl]; omega
      have HONE : Hid (∀ u ∈ xs, u.oneCell' = true) := HXR.out.oneCell one_nod
      have hr3 : RdS w W0 (w.heap.size + 1 + 1 + 1) w3 (.slice none 0 0) (.slice none 0 0) := ⟨(Kp.refl _ _).below hb13, hB3, M3.out, by omega⟩
      refine wp_quiet_tail 6 (by kernel_rfl) (by kernel_rfl) ?_
      simp only [List.take_succ_cons, List.take_zero, List.drop_succ_cons, List.drop_zero]
      repeat (go_big_quiet_step (fail))
      refine wpQuiet_nil ?_
      intro _ hw'
      obtain ⟨nq3, hw''⟩ := hw'
      subst hw''
      clear hsl
      have hbz := below_drewN (Below.refl w3.heap.size w3) nq3
      have HR := Lib.hid (hr3.below hbz)
      generalize w3.drewN nq3 = wz at *
      have HNW : Hid (0 < k → ∃ a, A1 = some a ∧ ∀ j u, (xs.take (k * 3))[j]? = some u → wz.cell? (a.add j) = some u) := fun h => by
        obtain ⟨a, h1, h2⟩ := head_cells HXC.out hfp h
        exact ⟨a, h1, fun j u hj => cell_below HR.out.b (h2 j u hj)⟩
      have HOA : Hid (Own wz B 29 3 (.slice none 0 0) 0 []) := Own.nil _ _ _ _
      have hBz : B ≤ wz.heap.size := by rw [hBe]; exact HR.out.k.s
      clear y0 y1 x0 x1 o1 o2 o3 hb13 hB3 M3 M2 hbz hr3
      go_upto_region 16 with (first
        | (at_builtin; refine wpList_append_q _ rfl (.tmp 70) (.tmp 74) _ rfl B 29 n0 (.agg #[.int .i64 0, .string .empty, .slice none 0 0]) 3 48 Tryz.underlying22 ni nz nz1 nz2 rfl (by decide) (.slice none 0 0) 0 [] rfl HOA.out A1 k c1 (xs.take (k * 3)) rfl HN1.out HNW.out (fun u hu => HONE.out u (List.mem_of_mem_take hu)) (by unfold maxLen; omega) (by omega) hBz ?_; intro v7 w7 hown7 hg7 hat7
           have hr7 := HR.out.grown (by rw [← hBe]; exact HOA.out) hw0 (by decide) hg7
           have f0 := block_free hr7.q 0
           have r0 := block_cell hr7.q 0
           obtain ⟨A7, c7, hv7, _, _⟩ := hown7.form
           subst hv7))
      -- behind an append that is stored at the nodes: k: how many there are as go writes it
      have HR2 := Lib.hid (hr7.setN (.slice A7 (k) c7))
      have hoa2 := hown7.same (hr7.same 0 (.slice A7 (k) c7) (T := 29) (by decide))
      clear f0 r0 hr7 hown7 hg7 hat7 HR HOA HNW
      generalize w7.setCell ⟨w.heap.size + 1 + 1 + 1, 0, none⟩ (.slice A7 (k) c7) = w8 at *
      have HB8 : Hid (B ≤ w8.heap.size) := by unfold Hid; rw [hBe]; exact HR2.out.k.s
      -- the op's node, laid at the heap's end of w8: $1: the world's name
      have q1 := HR2.out.old G1.out (by omega)
      have o1 := block_cell q1 1
      have o2 := block_cell q1 2
      have o3 := block_cell q1 3
      clear q1
      have hal : Below w8.heap.size w8 (w8.alloc (.cells #[.int .i64 node.id, .string node.kind, .slice Ar node.props.length cr] 29)) := (Below.refl _ _).alloc (Nat.le_refl _) _
      have HR := Lib.hid (HR2.out.below hal)
      have HBZ : Hid (B ≤ (w8.alloc (.cells #[.int .i64 node.id, .string node.kind, .slice Ar node.props.length cr] 29)).heap.size) := Nat.le_trans HB8.out hal.size
      have HNW : Hid (∀ j u, ([.int .i64 node.id, .string node.kind, .slice Ar node.props.length cr] : List Value)[j]? = some u → (w8.alloc (.cells #[.int .i64 node.id, .string node.kind, .slice Ar node.props.length cr] 29)).cell? ⟨w8.heap.size, j, none⟩ = some u) := fun j u hj => by
        rw [World.cell?_alloc_at _ _ _ _ rfl]; simpa using hj
      have HON : Hid (∀ u ∈ ([.int .i64 node.id, .string node.kind, .slice Ar node.props.length cr] : List Value), u.oneCell' = true) := fun u hu => by
        simp at hu; rcases hu with rfl | rfl | rfl <;> rfl
      clear hal
      have hoa := hoa2.alloc (.cells #[.int .i64 node.id, .string node.kind, .slice Ar node.props.length cr] 29)
      rw [Nat.zero_add, List.nil_append] at hoa
      have HOA := Lib.hid hoa
      have y0 := block_cell HR2.out.q 0
      clear hoa hoa2
      go_upto_region 17 with (first
        | (at_builtin; refine wpList_append_q _ rfl (.tmp 78) (.tmp 81) _ rfl B 29 n0 (.agg #[.int .i64 0, .string .empty, .slice none 0 0]) 3 48 Tryz.underlying22 ni nz nz1 nz2 rfl (by decide) (.slice A7 k c7) k (xs.take (k * 3)) rfl HOA.out (some ⟨w8.heap.size, 0, none⟩) 1 1 [.int .i64 node.id, .string node.kind, .slice Ar node.props.length cr] rfl rfl (fun _ => ⟨_, rfl, fun j u hj => by rw [addr_add, Nat.zero_add]; exact HNW.out j u hj⟩) HON.out (by unfold maxLen; omega) (by omega) HBZ.out ?_; intro v7 w7 hown7 hg7 hat7
           have hr7 := HR.out.grown (by rw [← hBe]; exact HOA.out) hw0 (by decide) hg7
           have f0 := block_free hr7.q 0
           have r0 := block_cell hr7.q 0
           obtain ⟨A7, c7, hv7, _, _⟩ := hown7.form
           subst hv7))
      clear HR2
      -- behind an append that is stored at the nodes: k + 1: how many there are as go writes it
      have HR2 := Lib.hid (hr7.setN (.slice A7 (k + 1) c7))
      have hoa2 := hown7.same (hr7.same 0 (.slice A7 (k + 1) c7) (T := 29) (by decide))
      clear f0 r0 hr7 hown7 hg7 hat7 HR HOA HNW
      generalize w7.setCell ⟨w.heap.size + 1 + 1 + 1, 0, none⟩ (.slice A7 (k + 1) c7) = w8 at *
      have HB8 : Hid (B ≤ w8.heap.size) := by unfold Hid; rw [hBe]; exact HR2.out.k.s
      have q0 := HR2.out.old G0.out (by omega)
      have x0 := block_cell q0 0
      have y0 := block_cell HR2.out.q 0
      have hkn : (k : Int) ≤ (g.nodes.length : Int) := by omega
      have hsl := cut_tailN A1 c1 g.nodes.length k (by omega)
      have HTC := Lib.hid (tail_cells HXC.out (by omega : g.nodes.length ≤ c1) HFPL.out)
      obtain ⟨At, hAt⟩ : ∃ At, At = (if c1 = k then A1 else A1.map (fun a => a.add (k * 3))) := ⟨_, rfl⟩
      rw [← hAt] at hsl HTC
      clear hAt q0
      go_wp2_with fail
      refine wp_quiet_tail 6 (by kernel_rfl) (by kernel_rfl) ?_
      simp only [List.take_succ_cons, List.take_zero, List.drop_succ_cons, List.drop_zero]
      repeat (go_big_quiet_step (fail))
      refine wpQuiet_nil ?_
      intro _ hw'
      obtain ⟨nq3, hw''⟩ := hw'
      subst hw''
      clear hsl
      have hbz := below_drewN (Below.refl w8.heap.size w8) nq3
      have HR := Lib.hid (HR2.out.below hbz)
      have HOA := Lib.hid (hoa2.below hbz)
      have HBZ : Hid (B ≤ (w8.drewN nq3).heap.size) := Nat.le_trans HB8.out hbz.size
      clear hbz hoa2 HB8 HR2
      generalize w8.drewN nq3 = wz at *
      have HNW : Hid (0 < g.nodes.length - k → ∃ a, At = some a ∧ ∀ j u, (xs.drop (k * 3))[j]? = some u → wz.cell? (a.add j) = some u) := fun h => by
        obtain ⟨a, h1, h2⟩ := HTC.out h
        exact ⟨a, h1, fun j u hj => cell_below HR.out.b (h2 j u hj)⟩
      go_upto_region 18 with (first
        | (at_builtin; refine wpList_append_q _ rfl (.tmp 85) (.tmp 89) _ rfl B 29 n0 (.agg #[.int .i64 0, .string .empty, .slice none 0 0]) 3 48 Tryz.underlying22 ni nz nz1 nz2 rfl (by decide) (.slice A7 (k + 1) c7) (k + 1) (xs.take (k * 3) ++ [.int .i64 node.id, .string node.kind, .slice Ar node.props.length cr]) rfl HOA.out At (g.nodes.length - k) (c1 - k) (xs.drop (k * 3)) rfl HN3.out HNW.out (fun u hu => HONE.out u (List.mem_of_mem_drop hu)) (by unfold maxLen; omega) (by omega) HBZ.out ?_; intro v7 w7 hown7 hg7 hat7
           have hr7 := HR.out.grown (by rw [← hBe]; exact HOA.out) hw0 (by decide) hg7
           have f0 := block_free hr7.q 0
           have r0 := block_cell hr7.q 0
           obtain ⟨A7, c7, hv7, _, _⟩ := hown7.form
           subst hv7))
      -- behind an append that is stored at the nodes: k + 1 + (g.nodes.length - k): how many there are as go writes it
      have HR2 := Lib.hid (hr7.setN (.slice A7 (k + 1 + (g.nodes.length - k)) c7))
      have hoa2 := hown7.same (hr7.same 0 (.slice A7 (k + 1 + (g.nodes.length - k)) c7) (T := 29) (by decide))
      clear f0 r0 hr7 hown7 hg7 hat7 HR HOA HNW
      generalize w7.setCell ⟨w.heap.size + 1 + 1 + 1, 0, none⟩ (.slice A7 (k + 1 + (g.nodes.length - k)) c7) = w8 at *
      have HB8 : Hid (B ≤ w8.heap.size) := by unfold Hid; rw [hBe]; exact HR2.out.k.s
      have q0 := HR2.out.old G0.out (by omega)
      have x1 := block_cell q0 1
      have y1 := block_cell HR2.out.q 1
      have f1 := block_free HR2.out.q 1
      clear q0
      go_upto_region 19 with fail
      have HR := HR2
      clear HR2
      have HR2 := Lib.hid (HR.out.setT (.slice A2 g.ties.length c2))
      have HOA := Lib.hid (hoa2.same (HR.out.same 1 (.slice A2 g.ties.length c2) (T := 29) (by decide)))
      clear hoa2 HR x1 y1 f1 HB8
      generalize w8.setCell ⟨w.heap.size + 1 + 1 + 1, 1, none⟩ (.slice A2 g.ties.length c2) = w8 at *
      -- the box that was built is the result: .slice A7 (k + 1 + (g.nodes.length - k)) c7, .slice A2 g.ties.length c2: its values; 0: the fault; ⟨Own.slS (L := nodL) (by rw [show (g.nodes.take k ++ node :: g.nodes.drop k).length = k + 1 + (g.nodes.length - k) by rw [List.length_append, List.length_cons, List.length_take, List.length_drop, Nat.min_eq_left hfp]; omega]; exact HOA.out.same (HSM.out (by decide))) (by decide) (fun W' hW => Row.insert (HXS.out W' (HST.out W' hW)) k hfp ⟨_, rfl, HOB.out.i, HOB.out.k, HOB.out.r.below hW.1⟩), HGS.out.2.stay HST.out⟩: its nodes and ties read so
      have m2 := HR2.out.old G2.out (by omega)
      have a0 := block_free m2 0
      have a1 := block_free m2 1
      have a2 := block_cell m2 0
      have a3 := block_cell m2 1
      have y0 := block_cell HR2.out.q 0
      have y1 := block_cell HR2.out.q 1
      have s2 := setCell_block (setCell_block m2 0 (.slice A7 (k + 1 + (g.nodes.length - k)) c7)) 1 (.slice A2 g.ties.length c2)
      have hbX := (HR2.out.b.setCell (p := ⟨w.heap.size + 1 + 1, 0, none⟩) (by show w.heap.size ≤ w.heap.size + 1 + 1; omega) (.slice A7 (k + 1 + (g.nodes.length - k)) c7)).setCell (p := ⟨w.heap.size + 1 + 1, 1, none⟩) (by show w.heap.size ≤ w.heap.size + 1 + 1; omega) (.slice A2 g.ties.length c2)
      have HS2 := Lib.hid s2
      have HSM : Hid (∀ {T : TypeId}, 25 ≠ T → Same T w8 ((w8.setCell ⟨w.heap.size + 1 + 1, 0, none⟩ (.slice A7 (k + 1 + (g.nodes.length - k)) c7)).setCell ⟨w.heap.size + 1 + 1, 1, none⟩ (.slice A2 g.ties.length c2))) := fun hT => (Same.setCell (p := ⟨w.heap.size + 1 + 1, 0, none⟩) m2 hT (.slice A7 (k + 1 + (g.nodes.length - k)) c7)).trans (Same.setCell (p := ⟨w.heap.size + 1 + 1, 1, none⟩) (setCell_block m2 0 (.slice A7 (k + 1 + (g.nodes.length - k)) c7)) hT (.slice A2 g.ties.length c2))
      have HBX := Lib.hid hbX
      have HST : Hid (∀ W', Stay w0 ((w8.setCell ⟨w.heap.size + 1 + 1, 0, none⟩ (.slice A7 (k + 1 + (g.nodes.length - k)) c7)).setCell ⟨w.heap.size + 1 + 1, 1, none⟩ (.slice A2 g.ties.length c2)) W' → Stay w0 w W') := fun W' hW => hW.from HBX.out
      clear s2 m2 hbX
      go_wp2_with fail
      have k2' := block_cell HS2.out 0
      have k3' := block_cell HS2.out 1
      refine bodyPost_ret (v := .tuple #[.agg #[.slice A7 (k + 1 + (g.nodes.length - k)) c7, .slice A2 g.ties.length c2], .int .i64 (0)]) (by simp [results, Tryz.results8, go_sem, k2', k3']) rfl
        ⟨_, _, by rw [HE.out.1], by rw [HE.out.2]; exact ⟨Own.slS (L := nodL) (by rw [show (g.nodes.take k ++ node :: g.nodes.drop k).length = k + 1 + (g.nodes.length - k) by rw [List.length_append, List.length_cons, List.length_take, List.length_drop, Nat.min_eq_left hfp]; omega]; exact HOA.out.same (HSM.out (by decide))) (by decide) (fun W' hW => Row.insert (HXS.out W' (HST.out W' hW)) k hfp ⟨_, rfl, HOB.out.i, HOB.out.k, HOB.out.r.below hW.1⟩), HGS.out.2.stay HST.out⟩, HBX.out⟩
end Go.Proofs.YtngbbefpphinjaaGreatDoor
