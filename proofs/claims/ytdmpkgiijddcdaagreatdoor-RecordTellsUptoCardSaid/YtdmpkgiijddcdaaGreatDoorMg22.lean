/- Parts: GrO, OwnS, OwnT, ChA, LinP, SamS, IntS, GtA, As, Told. -/
import Derived.Test.YtdmpkgiijddcdaaGreatDoorMg07
import Derived.Test.YtdmpkgiijddcdaaGreatDoorMg04
import Derived.Deep.RegionLaw
import Derived.Test.YtdmpkgiijddcdaaGreatDoorMg16
import Derived.Test.YtdmpkgiijddcdaaGreatDoorMg21
import Derived.Deep.RegionHeld3
import Derived.Test.YtdmpkgiijddcdaaGreatDoorMg08
import Derived.Test.YtdmpkgiijddcdaaGreatDoorMg15
import Derived.Test.YtdmpkgiijddcdaaGreatDoorMg05
import Derived.Deep.DeepCutAuto
import Derived.Test.YtdmpkgiijddcdaaGreatDoorMg01
import Derived.Test.YtdmpkgiijddcdaaGreatDoorRows
import Derived.WalkKit
import Derived.LaidEql
import Derived.Stop.Asserts
import Derived.RowKitTokens
/- Contract: graph.Own. -/
namespace Go.Proofs.YtdmpkgiijddcdaaGreatDoor
open Go Go.RowKit







open Go

theorem idx_low {D : Type} {R : D → D → Bool} {c : D → Int} {p : D → Bool} {l : List D} (hc : chain R l = true) (mono : ∀ a b, R a b = true → 0 ≤ c a → 0 ≤ c b) (hz : ∀ a b, R a b = true → c b = 0 → c a < 0) (hp : ∀ x, p x = decide (c x = 0)) :
    idxI p l = if eqAt c l (lowI c l) = true then (lowI c l : Int) else -1 := by
  cases hq : eqAt c l (lowI c l) with
  | true =>
    rw [if_pos rfl]
    unfold eqAt at hq
    cases hd : l[lowI c l]? with
    | none => rw [hd] at hq; cases hq
    | some d =>
      rw [hd] at hq
      have h0 : c d = 0 := by simpa using hq
      refine idxI_hit (fun j x hj hx => ?_) hd (by rw [hp]; exact decide_eq_true h0)
      have := low_lt hj hx
      rw [hp]; exact decide_eq_false (by omega)
  | false =>
    rw [if_neg (by simp)]
    obtain ⟨b1, b2⟩ := low_parts hc mono hq hz
    refine idxI_miss fun j x hj hx => ?_
    have hm : x ∈ l := List.mem_of_getElem? hx
    rw [← List.take_append_drop (lowI c l) l] at hm
    rw [hp]
    rcases List.mem_append.1 hm with h | h
    · have := b1 x h; exact decide_eq_false (by omega)
    · have := b2 x h; exact decide_eq_false (by omega)
theorem idx_prp {r : List Prp} (hc : chain prpLt r = true) (nm : ByteArray) : atI r nm = if rhas r nm = true then (rpos r nm : Int) else -1 := by
  unfold atI rhas rpos
  refine idx_low hc (prpC_mono nm) (prp_hz nm) (fun x => ?_)
  unfold prpC
  by_cases h : x.name = nm
  · rw [decide_eq_true h, decide_eq_true (cmpS_zero.2 h)]
  · rw [decide_eq_false h, decide_eq_false (fun e => h (cmpS_zero.1 e))]






theorem prp_guard (op : BinOp) (a b : Operand) (xs ys : Array Value) (w : World) : (eqGuard op 62 a b (.agg xs) (.agg ys)).run Tryz.prog w = .ok () w := run_eqGuard_agg w op 62 a b xs ys (by kernel_rfl)
theorem pval_same (d : Nat) (x y : Val) (w : World) : (Op.equalIn (d + 2) 43 (.agg #[.int .i64 x.ty, .int .i64 x.n, .string x.s]) (.agg #[.int .i64 y.ty, .int .i64 y.n, .string y.s])).run Tryz.prog w = .ok (decide (x = y)) w := by
  have hS : Tryz.prog.underlying 43 = some (.struct (Tryz.prog.fieldsOf 43)) := by kernel_rfl
  have hp : Tryz.prog.stoodInHeld 43 = false := by kernel_rfl
  have e1 := Tryz.underlying9
  have e2 := Tryz.underlying3
  rw [run_equalIn_agg w (d + 1) 43 _ _ hS hp]
  simp only [Program.fieldsOf, Tryz.underlying43]
  go_simp
  simp only [bytes_eq]
  cases x; cases y
  simp only [Val.mk.injEq]
  rename_i a b c a' b' c'
  by_cases h1 : a = a' <;> by_cases h2 : b = b' <;> by_cases h3 : c = c' <;> simp [h1, h2, h3]
set_option maxRecDepth 100000 in
theorem prp_same (d : Nat) (x y : Prp) (w : World) : (Op.equalIn (d + 3) 62 (.agg #[.string x.name, .int .i64 x.v.ty, .int .i64 x.v.n, .string x.v.s]) (.agg #[.string y.name, .int .i64 y.v.ty, .int .i64 y.v.n, .string y.v.s])).run Tryz.prog w = .ok (decide (x = y)) w := by
  have hS : Tryz.prog.underlying 62 = some (.struct (Tryz.prog.fieldsOf 62)) := by kernel_rfl
  have hp : Tryz.prog.stoodInHeld 62 = false := by kernel_rfl
  have hv := pval_same d x.v y.v w
  have e1 := Tryz.underlying9
  have e2 := Tryz.underlying3
  have e3 := Tryz.underlying43
  have HV := Lib.hid hv
  clear hv
  rw [run_equalIn_agg w (d + 2) 62 _ _ hS hp]
  simp only [Program.fieldsOf, Tryz.underlying62]
  clear hS hp
  go_simp
  clear HV
  simp only [bytes_eq]
  cases x with | mk f v => cases y with | mk f' v' =>
  cases v; cases v'
  simp only [Prp.mk.injEq, Val.mk.injEq]
  rename_i a b c a' b' c'
  by_cases h0 : f = f' <;> by_cases h1 : a = a' <;> by_cases h2 : b = b' <;> by_cases h3 : c = c' <;> simp [h0, h1, h2, h3]
theorem prp_neq (x y : Prp) (w : World) : (binOp .neq 62 (.agg #[.string x.name, .int .i64 x.v.ty, .int .i64 x.v.n, .string x.v.s]) (.agg #[.string y.name, .int .i64 y.v.ty, .int .i64 y.v.n, .string y.v.s])).run Tryz.prog w = .ok (.bool (!decide (x = y))) w := by
  rw [run_neq_struct, show (10000 : Nat) = 9997 + 3 from rfl, prp_same]; rfl
set_option maxHeartbeats 1000000 in
theorem srecord_any_q (a b : List Prp) (va vb : Value) (w : World) (ha : Sl prpL w va a) (hb : Sl prpL w vb b) : Calls Tryz.prog 28 #[va, vb] w fun e w' => e = .returned (.bool (decide (a = b))) ∧ ∃ m, w' = w.drewN m := by
  obtain ⟨A, c, rfl, _, hcm⟩ := ha.form
  obtain ⟨B, d, rfl, _, hdm⟩ := hb.form
  unfold maxLen at hcm hdm
  by_cases hl : a.length = b.length
  case neg =>
    have HE : Hid (decide (a = b) = false) := decide_eq_false fun e => hl (by rw [e])
    have hl' : decide ((a.length : Int) = (b.length : Int)) = false := decide_eq_false (by omega)
    have hl2 : ((a.length : Int) == (b.length : Int)) = false := by rw [beq_eq_false_iff_ne]; omega
    clear ha hb hl
    go_enter Tryz.func28, Tryz.ntmps28
    go_wp2_with fail
    go_ret
    exact ⟨by rw [HE.out]; rfl, 0, rfl⟩
  have HL := Lib.hid hl
  have hlb : a.length ≤ b.length := by omega
  rw [← hl]
  clear hl
  go_enter Tryz.func28, Tryz.ntmps28
  go_wp2_with fail
  go_loopw [5] (fun i wr => ∃ k : Nat, k ≤ a.length ∧ i = .int .i64 k ∧ Below w.heap.size w wr ∧ Hid (∃ m, wr = w.drewN m) ∧ Hid (∀ j x y, j < k → a[j]? = some x → b[j]? = some y → x = y)) (fun i _ => a.length - (intOf i).toNat)
  case atStart => exact ⟨0, Nat.zero_le _, rfl, Below.refl _ _, ⟨0, rfl⟩, fun j x y hj => absurd hj (Nat.not_lt_zero _)⟩
  case round =>
    obtain ⟨k, hk, rfl, hbr, HM, HA⟩ := hrel
    by_cases hlt : k < a.length
    · obtain ⟨x, hx⟩ : ∃ d, a[k]? = some d := ⟨_, List.getElem?_eq_getElem hlt⟩
      obtain ⟨y, hy⟩ : ∃ d, b[k]? = some d := ⟨_, List.getElem?_eq_getElem (by omega)⟩
      have hlt' : (k : Int) < (a.length : Int) := by omega
      obtain ⟨b1, o1, rfl, _, x0, x1, x2, x3⟩ := prp_at (ha.below hbr) hx
      obtain ⟨b2, o2, rfl, _, y0, y1, y2, y3⟩ := prp_at (hb.below hbr) hy
      have hneq := prp_neq x y
      have hgd := prp_guard
      have HX := Lib.hid hx
      have HY := Lib.hid hy
      clear hx hy
      by_cases hq : x = y
      · have HS : Hid (∀ j x y, j < k + 1 → a[j]? = some x → b[j]? = some y → x = y) := fun j p q hj hp hq2 => by
          by_cases hjk : j = k
          · subst hjk
            have e1 := HX.out.symm.trans hp
            have e2 := HY.out.symm.trans hq2
            injection e1 with e1; injection e2 with e2
            rw [← e1, ← e2]; exact hq
          · exact HA.out j p q (by omega) hp hq2
        rw [decide_eq_true hq] at hneq
        clear ha hb hq
        go_wp2_with fail
        go_quiet (fail)
        go_wp2_with fail
        go_roundw
        case rel => exact ⟨k + 1, by omega, by go_num, below_drewN hbr _, drewN_step HM.out nq, HS⟩
        case measure => simp [intOf]; omega
      · have HE : Hid (decide (a = b) = false) := decide_eq_false fun e => by
          have e1 := HX.out
          rw [e, HY.out] at e1
          injection e1 with e1
          exact hq e1.symm
        rw [decide_eq_false hq] at hneq
        clear ha hb hq
        go_wp2_with fail
        go_quiet (fail)
        go_wp2_with fail
        go_ret
        exact ⟨by rw [HE.out]; rfl, drewN_step HM.out nq⟩
    · obtain rfl : k = a.length := by omega
      have HE : Hid (decide (a = b) = true) := decide_eq_true (lists_eq HL.out HA.out)
      clear ha hb
      go_wp2_with fail
      go_ret
      exact ⟨by rw [HE.out]; rfl, HM.out⟩
theorem srecord_any (a b : List Prp) (va vb : Value) (w : World) (ha : Sl prpL w va a) (hb : Sl prpL w vb b) : Calls Tryz.prog 28 #[va, vb] w fun e w' => e = .returned (.bool (decide (a = b))) ∧ Below w.heap.size w w' :=
  (srecord_any_q a b va vb w ha hb).mono fun _ _ ⟨h, m, hm⟩ => ⟨h, by rw [hm]; exact below_drewN (Below.refl _ _) m⟩
/-! ### Two nodes -/

open Go.RowKit Go.Extern.Stop Go.Stop Go.Extern

/-! ### CLOSED FACTS ON THE MODEL's ENTRIES FOR internal/reflectlite, at this program's types: 25: *p.E · 27: **p.E · 23: error · 45: reflectlite's rtype · 1: how many package-level variables the dump has -/
theorem as_valueOfP (t : Addr) (w : World) : (ReflectliteValue.unpack (.iface 181 (.pointer (some t)))).run Tryz.prog w
    = .ok (.agg #[.pointer (some ⟨10, 181, none⟩), .pointer (some ⟨w.heap.size, 0, none⟩), .int .u64 150]) (w.alloc (.cells #[.pointer (some t)] 181)) := by kernel_rfl
theorem as_typeP (a : Addr) (w : World) : (ReflectliteValue.methodAny (ReflectliteValue.valueError "reflectlite.Value.Type" 0) (fun t _ _ _ => ReflectliteType.toType t) #[.agg #[.pointer (some ⟨10, 181, none⟩), .pointer (some a), .int .u64 150]]).run Tryz.prog w
    = .ok (.iface 247 (.agg #[.pointer (some ⟨10, 181, none⟩)])) w := by kernel_rfl
theorem as_methodKind (h : Value) (w : World) : (Go.method 425 247 (.agg #[h]) "Kind").run Tryz.prog w = .ok (233, h) w := by kernel_rfl
theorem as_kindP (w : World) : ((ReflectliteType.abiMethod fun t => (fun a : Nat => Value.int IntKind.u8 (a : Int)) <$> Rtype.kind t) #[.pointer (some ⟨10, 181, none⟩)]).run Tryz.prog w = .ok (.int .u8 22) w := by kernel_rfl
theorem as_kindE (w : World) : ((ReflectliteType.abiMethod fun t => (fun a : Nat => Value.int IntKind.u8 (a : Int)) <$> Rtype.kind t) #[.pointer (some ⟨10, 118, none⟩)]).run Tryz.prog w = .ok (.int .u8 2) w := by kernel_rfl

/-! ### THE ENTRIES THAT READ OR WRITE MEMORY: laws with a premise on the cell (after Derived/Lib/ReflectliteSlice.lean's manner: each unfolding a lemma of its own, by rfl) -/
theorem rlm (z : Sem Value) (f : TypeId → Addr → Nat → Nat → Sem Value) (v : Value) :
    ReflectliteValue.method z f #[v] = (do match ← ReflectliteValue.parts v with | none => z | some (t, a, fl) => f t a fl (fl % 32)) := rfl
theorem as_partsP (a : Addr) (w : World) : (ReflectliteValue.parts (.agg #[.pointer (some ⟨10, 181, none⟩), .pointer (some a), .int .u64 150])).run Tryz.prog w = .ok (some (181, a, 150)) w := by kernel_rfl
/-- (Value).IsNil at the Value of a **p.E that is not nil. -/
theorem as_isNilP (a p : Addr) (W : World) (ha : W.cell? a = some (.pointer (some p))) :
    (ReflectliteValue.method (ReflectliteValue.valueError "reflectlite.Value.IsNil" 0) ReflectliteValue.isNil #[.agg #[.pointer (some ⟨10, 181, none⟩), .pointer (some a), .int .u64 150]]).run Tryz.prog W = .ok (.bool false) W := by
  rw [rlm]
  simp only [Sem.run_bind, as_partsP, Result.andThen]
  simp [ReflectliteValue.isNil, loadVar, isAgg, underlying, Tryz.underlying181, ha, Result.andThen]

theorem as_methodElem (h : Value) (w : World) : (Go.method 425 247 (.agg #[h]) "Elem").run Tryz.prog w = .ok (247, .agg #[h]) w := by kernel_rfl
theorem as_methodImplements (h : Value) (w : World) : (Go.method 425 247 (.agg #[h]) "Implements").run Tryz.prog w = .ok (248, .agg #[h]) w := by kernel_rfl
theorem as_methodAssignableTo (h : Value) (w : World) : (Go.method 425 247 (.agg #[h]) "AssignableTo").run Tryz.prog w = .ok (245, .agg #[h]) w := by kernel_rfl
theorem as_elemP (w : World) : (ReflectliteType.method ReflectliteType.elem #[.agg #[.pointer (some ⟨10, 181, none⟩)]]).run Tryz.prog w = .ok (.iface 247 (.agg #[.pointer (some ⟨10, 118, none⟩)])) w := by kernel_rfl
theorem as_implementsE (w : World) : (ReflectliteType.relation "Implements" ReflectliteType.implements_ #[.agg #[.pointer (some ⟨10, 118, none⟩)], .iface 247 (.agg #[.pointer (some ⟨10, 27, none⟩)])]).run Tryz.prog w = .ok (.bool true) w := by kernel_rfl
theorem as_typeOfE (v : Value) (w : World) : (ReflectliteType.typeOf #[.iface 118 v]).run Tryz.prog w = .ok (.iface 247 (.agg #[.pointer (some ⟨10, 118, none⟩)])) w := by kernel_rfl
theorem as_assignableE (w : World) : (ReflectliteType.relation "AssignableTo" ReflectliteType.assignableTo #[.agg #[.pointer (some ⟨10, 118, none⟩)], .iface 247 (.agg #[.pointer (some ⟨10, 118, none⟩)])]).run Tryz.prog w = .ok (.bool true) w := by kernel_rfl
theorem as_valueOfE (e : Int) (w : World) : (ReflectliteValue.unpack (.iface 118 (.int .i64 e))).run Tryz.prog w
    = .ok (.agg #[.pointer (some ⟨10, 118, none⟩), .pointer (some ⟨w.heap.size, 0, none⟩), .int .u64 130]) (w.alloc (.cells #[.int .i64 e] 118)) := by kernel_rfl

theorem as_elemOfP (w : World) : (Rtype.elem? 181).run Tryz.prog w = .ok (some 118) w := by kernel_rfl
theorem as_mkE (p : Addr) (w : World) : (ReflectliteValue.mk 118 p ReflectliteValue.flagAddr).run Tryz.prog w = .ok (.agg #[.pointer (some ⟨10, 118, none⟩), .pointer (some p), .int .u64 386]) w := by kernel_rfl
/-- (Value).Elem at the Value of a **p.E that is not nil: the Value of the *p.E variable that it points to, addressable. -/
theorem as_elemVP (a p : Addr) (W : World) (ha : W.cell? a = some (.pointer (some p))) :
    (ReflectliteValue.method (ReflectliteValue.valueError "reflectlite.Value.Elem" 0) ReflectliteValue.elem #[.agg #[.pointer (some ⟨10, 181, none⟩), .pointer (some a), .int .u64 150]]).run Tryz.prog W
      = .ok (.agg #[.pointer (some ⟨10, 118, none⟩), .pointer (some p), .int .u64 386]) W := by
  rw [rlm]
  simp only [Sem.run_bind, as_partsP, Result.andThen]
  simp [ReflectliteValue.elem, loadVar, isAgg, underlying, Tryz.underlying181, ha, Result.andThen, as_elemOfP, as_mkE]
theorem rls (v x : Value) : ReflectliteValue.set #[v, x] = (do
    let (some (dst, a, fl), some (src, b, _)) := (← ReflectliteValue.parts v, ← ReflectliteValue.parts x)
      | unsupported (.noEntry "extern/(internal/reflectlite.Value).Set.zeroValue")
    if fl / ReflectliteValue.flagAddr % 2 == 0 then unsupported (.noEntry "extern/(internal/reflectlite.Value).Set.unaddressable")
    let val ← loadVar src b
    if ← Rtype.directlyAssignable dst src then storeVar dst a val
    else if ← Rtype.implements dst src then
      if (← Rtype.kind src) == 20 then
        match val with
        | .nilIface => unsupported (.noEntry "extern/reflectlite: a nil value of one interface type handed on as a value of another")
        | _ => storeVar dst a val
      else storeVar dst a (.iface src val)
    else panicString ("reflectlite.Set: value of type " ++ (← Rtype.spelt src) ++ " is not assignable to type " ++ (← Rtype.spelt dst))
    pure (.tuple #[])) := rfl
theorem as_partsEa (a : Addr) (w : World) : (ReflectliteValue.parts (.agg #[.pointer (some ⟨10, 118, none⟩), .pointer (some a), .int .u64 386])).run Tryz.prog w = .ok (some (118, a, 386)) w := by kernel_rfl
theorem as_partsE (a : Addr) (w : World) : (ReflectliteValue.parts (.agg #[.pointer (some ⟨10, 118, none⟩), .pointer (some a), .int .u64 130])).run Tryz.prog w = .ok (some (118, a, 130)) w := by kernel_rfl
theorem as_directE (w : World) : (Rtype.directlyAssignable 118 118).run Tryz.prog w = .ok true w := by kernel_rfl
/-- (Value).Set: the *p.E variable at 'ta' gets what the Value's own variable 'b' holds. -/
theorem as_setE (ta b : Addr) (e : Int) (old : Value) (W : World) (hb : W.cell? b = some (.int .i64 e)) (ht : W.cell? ta = some old) (hf : W.frozen? ta = false) :
    (ReflectliteValue.set #[.agg #[.pointer (some ⟨10, 118, none⟩), .pointer (some ta), .int .u64 386], .agg #[.pointer (some ⟨10, 118, none⟩), .pointer (some b), .int .u64 130]]).run Tryz.prog W
      = .ok (.tuple #[]) (W.setCell ta (.int .i64 e)) := by
  rw [rls]
  simp only [Sem.run_bind, as_partsEa, as_partsE, Result.andThen]
  simp [ReflectliteValue.flagAddr, loadVar, isAgg, underlying, Tryz.underlying118, hb, Result.andThen, as_directE, storeVar, Value.cells, storeCells, Addr.add]
  rw [run_store Tryz.prog W ta _ _ (by rfl)]
  simp [ht, hf]

set_option maxRecDepth 100000 in
set_option maxHeartbeats 4000000 in
theorem as_hit (e : Int) (t : Addr) (old : Value) (w : World) (hg : w.cell? ⟨1, 0, none⟩ = some (.iface 247 (.agg #[.pointer (some ⟨10, 27, none⟩)]))) (ht0 : w.cell? t = some old) (hf0 : w.frozen? t = false) :
    Calls Tryz.prog 115 #[.iface 118 (.int .i64 e), .iface 181 (.pointer (some t))] w fun ev w' => ev = .returned (.bool true) ∧ w' = ((((w.alloc (.cells #[.pointer (some t)] 181)).alloc (.cells #[.pointer (some ⟨10, 181, none⟩), .pointer (some ⟨w.heap.size, 0, none⟩), .int .u64 150] 209)).alloc (.cells #[.pointer (some ⟨10, 181, none⟩), .pointer (some ⟨w.heap.size, 0, none⟩), .int .u64 150] 209)).alloc (.cells #[.int .i64 e] 118)).setCell t (.int .i64 e) := by
  have h6 := @run_callFunc_extern Tryz.prog 153 _ (fun args => ReflectliteValue.unpack (args.getD 0 (.tuple #[]))) Tryz.func153 (by kernel_rfl) (by kernel_rfl) (by kernel_rfl) (by kernel_rfl)
  have h7 := @run_callFunc_extern Tryz.prog 154 _ (ReflectliteValue.methodAny (ReflectliteValue.valueError "reflectlite.Value.Type" 0) (fun t _ _ _ => ReflectliteType.toType t)) Tryz.func154 (by kernel_rfl) (by kernel_rfl) (by kernel_rfl) (by kernel_rfl)
  have h8 := @run_callFunc_extern Tryz.prog 155 _ (ReflectliteValue.method (ReflectliteValue.valueError "reflectlite.Value.IsNil" 0) ReflectliteValue.isNil) Tryz.func155 (by kernel_rfl) (by kernel_rfl) (by kernel_rfl) (by kernel_rfl)
  have h27 := @run_callFunc_extern Tryz.prog 233 _ (ReflectliteType.abiMethod fun t => do pure (.int .u8 (← Rtype.kind t))) Tryz.func233 (by kernel_rfl) (by kernel_rfl) (by kernel_rfl) (by kernel_rfl)
  have h37 := @run_callFunc_extern Tryz.prog 247 _ (ReflectliteType.method ReflectliteType.elem) Tryz.func247 (by kernel_rfl) (by kernel_rfl) (by kernel_rfl) (by kernel_rfl)
  have h38 := @run_callFunc_extern Tryz.prog 248 _ (ReflectliteType.relation "Implements" ReflectliteType.implements_) Tryz.func248 (by kernel_rfl) (by kernel_rfl) (by kernel_rfl) (by kernel_rfl)
  have h10 := @run_callFunc_extern Tryz.prog 183 _ ReflectliteType.typeOf Tryz.func183 (by kernel_rfl) (by kernel_rfl) (by kernel_rfl) (by kernel_rfl)
  have h35 := @run_callFunc_extern Tryz.prog 245 _ (ReflectliteType.relation "AssignableTo" ReflectliteType.assignableTo) Tryz.func245 (by kernel_rfl) (by kernel_rfl) (by kernel_rfl) (by kernel_rfl)
  have h11 := @run_callFunc_extern Tryz.prog 184 _ (ReflectliteValue.method (ReflectliteValue.valueError "reflectlite.Value.Elem" 0) ReflectliteValue.elem) Tryz.func184 (by kernel_rfl) (by kernel_rfl) (by kernel_rfl) (by kernel_rfl)
  have h12 := @run_callFunc_extern Tryz.prog 185 _ ReflectliteValue.set Tryz.func185 (by kernel_rfl) (by kernel_rfl) (by kernel_rfl) (by kernel_rfl)
  have tO := as_typeOfE
  have mA := as_methodAssignableTo
  have a25 := as_assignableE
  have v25 := as_valueOfE
  have f6 := as_valueOfP
  have f7 := as_typeP
  have mK := as_methodKind
  have mE := as_methodElem
  have mI := as_methodImplements
  have k27 := as_kindP
  have k25 := as_kindE
  have e27 := as_elemP
  have i25 := as_implementsE
  have n8 := as_isNilP ⟨w.heap.size, 0, none⟩ t ((w.alloc (.cells #[.pointer (some t)] 181)).alloc (.cells #[.pointer (some ⟨10, 181, none⟩), .pointer (some ⟨w.heap.size, 0, none⟩), .int .u64 150] 209)) (by simp)
  have hlt : 1 < w.heap.size := World.block_lt_of_cell? _ _ hg
  have hg2 : ((w.alloc (.cells #[.pointer (some t)] 181)).alloc (.cells #[.pointer (some ⟨10, 181, none⟩), .pointer (some ⟨w.heap.size, 0, none⟩), .int .u64 150] 209)).cell? ⟨1, 0, none⟩ = some (.iface 247 (.agg #[.pointer (some ⟨10, 27, none⟩)])) := by
    rw [World.cell?_alloc_lt _ _ ⟨1, 0, none⟩ (by simp only [World.size_alloc]; omega), World.cell?_alloc_lt _ _ ⟨1, 0, none⟩ hlt]; exact hg
  have htl : t.block < w.heap.size := by
    rcases Nat.lt_or_ge t.block w.heap.size with h | h
    · exact h
    · simp [World.cell?, Array.getElem?_eq_none h] at ht0
  have el := as_elemVP ⟨w.heap.size, 0, none⟩ t (((w.alloc (.cells #[.pointer (some t)] 181)).alloc (.cells #[.pointer (some ⟨10, 181, none⟩), .pointer (some ⟨w.heap.size, 0, none⟩), .int .u64 150] 209)).alloc (.cells #[.pointer (some ⟨10, 181, none⟩), .pointer (some ⟨w.heap.size, 0, none⟩), .int .u64 150] 209)) (by rw [World.cell?_alloc_lt _ _ ⟨w.heap.size, 0, none⟩ (by simp; omega)]; simp)
  have st := as_setE t ⟨w.heap.size + 1 + 1 + 1, 0, none⟩ e old ((((w.alloc (.cells #[.pointer (some t)] 181)).alloc (.cells #[.pointer (some ⟨10, 181, none⟩), .pointer (some ⟨w.heap.size, 0, none⟩), .int .u64 150] 209)).alloc (.cells #[.pointer (some ⟨10, 181, none⟩), .pointer (some ⟨w.heap.size, 0, none⟩), .int .u64 150] 209)).alloc (.cells #[.int .i64 e] 118))
    (by rw [World.cell?_alloc_at _ _ _ _ (by simp)]; rfl)
    (by rw [World.cell?_alloc_lt _ _ t (by simp; omega), World.cell?_alloc_lt _ _ t (by simp; omega), World.cell?_alloc_lt _ _ t (by simp; omega), World.cell?_alloc_lt _ _ t htl]; exact ht0)
    (by rw [World.frozen?_alloc_old _ _ t (by simp; omega), World.frozen?_alloc_old _ _ t (by simp; omega), World.frozen?_alloc_old _ _ t (by simp; omega), World.frozen?_alloc_old _ _ t (Nat.ne_of_lt htl)]; exact hf0)
  go_enter Tryz.func115, Tryz.ntmps115
  go_wp2
  refine wp_loop_rounds 1 ?_
  rw [rounds_succ]
  go_wp2
  go_ret
  exact ⟨rfl, rfl⟩

/-- The library's variable holds the handle of the type error. -/
def GlobOk (w : World) : Prop := w.cell? ⟨1, 0, none⟩ = some (.iface 247 (.agg #[.pointer (some ⟨10, 27, none⟩)]))
theorem GlobOk.below {w w' : World} (hb : Below w.heap.size w w') (h : GlobOk w) : GlobOk w' := cell_below hb h
theorem below_al {w w' : World} (h : Below w.heap.size w w') (o : Obj) : Below w.heap.size w (w'.alloc o) := h.alloc h.size o
set_option maxHeartbeats 1000000 in
theorem told_any (k : Int) (w : World) (hg : GlobOk w) : Calls Tryz.prog 63 #[errV k] w fun e w' => e = .returned (.int .i64 k) ∧ Below w.heap.size w w' := by
  by_cases hk : k = 0
  · subst hk
    rw [errV_zero rfl]
    go_enter Tryz.func63, Tryz.ntmps63
    go_wp2_with fail
    go_ret
    exact ⟨rfl, Below.refl _ _⟩
  · rw [errV_some hk]
    clear hk
    have hb0 : Below w.heap.size w (w.alloc (.cells #[.int .i64 0] 118)) := (Below.refl _ _).alloc (Nat.le_refl _) _
    have h1 := as_hit k ⟨w.heap.size, 0, none⟩ (.int .i64 0) (w.alloc (.cells #[.int .i64 0] 118)) (hg.below hb0) (by rw [World.cell?_alloc_at _ _ _ _ rfl]; rfl) (by simp)
    clear hg
    go_enter Tryz.func63, Tryz.ntmps63
    go_wp2_with fail
    refine h1.mono ?_
    clear h1
    rintro e w' ⟨rfl, rfl⟩
    go_wp2_with fail
    go_ret
    refine ⟨rfl, ?_⟩
    exact below_al (below_al (below_al (below_al (below_al (Below.refl _ _) _) _) _) _) _
theorem same_any (k n : Int) (w : World) (hg : GlobOk w) : Calls Tryz.prog 12 #[errV k, .int .i64 n] w fun e w' => e = .returned (.bool (k == n)) ∧ Below w.heap.size w w' := by
  have h1 := told_any k w hg
  generalize errV k = v at *
  clear hg
  go_enter Tryz.func12, Tryz.ntmps12
  go_wp2_with fail
  refine h1.mono ?_
  clear h1
  rintro e w' ⟨rfl, hb⟩
  go_wp2_with fail
  go_ret
  exact ⟨rfl, hb⟩
end Go.Proofs.YtdmpkgiijddcdaaGreatDoor
