/- Parts: As, Told, CMany. -/
import Derived.Test.YtldmofffogjlkaaDoorMg01
import Derived.Test.YtldmofffogjlkaaDoorRows
import Derived.WalkKit
import Derived.LaidEql
import Derived.Stop.Asserts
import Derived.RowKitTokens
import Derived.Test.YtldmofffogjlkaaDoorMg22
import Derived.Deep.RegionHeld3
/- errors.As at a target of the program's own error type (a number): its contracts, turned from the guide's worked example. Conditions: the library's variable holds the handle of the type error. -/
namespace Go.Proofs.YtldmofffogjlkaaDoor
open Go.RowKit Go.Extern.Stop Go.Stop Go.Extern

/-- errors.As(nil, target). -/
theorem as_nil (t : Value) (w : World) :
    Calls Tryd.prog 81 #[.nilIface, t] w fun e w' => e = .returned (.bool false) ∧ w' = w := by
  go_enter Tryd.func81, Tryd.ntmps81
  go_wp2
  go_ret
  exact ⟨rfl, rfl⟩

/-! ### CLOSED FACTS ON THE MODEL's ENTRIES FOR internal/reflectlite, at this program's types: 25: *p.E · 27: **p.E · 23: error · 45: reflectlite's rtype · 1: how many package-level variables the dump has -/
theorem as_valueOfP (t : Addr) (w : World) : (ReflectliteValue.unpack (.iface 136 (.pointer (some t)))).run Tryd.prog w
    = .ok (.agg #[.pointer (some ⟨8, 136, none⟩), .pointer (some ⟨w.heap.size, 0, none⟩), .int .u64 150]) (w.alloc (.cells #[.pointer (some t)] 136)) := by kernel_rfl
theorem as_typeP (a : Addr) (w : World) : (ReflectliteValue.methodAny (ReflectliteValue.valueError "reflectlite.Value.Type" 0) (fun t _ _ _ => ReflectliteType.toType t) #[.agg #[.pointer (some ⟨8, 136, none⟩), .pointer (some a), .int .u64 150]]).run Tryd.prog w
    = .ok (.iface 200 (.agg #[.pointer (some ⟨8, 136, none⟩)])) w := by kernel_rfl
theorem as_methodKind (h : Value) (w : World) : (Go.method 398 200 (.agg #[h]) "Kind").run Tryd.prog w = .ok (224, h) w := by kernel_rfl
theorem as_kindP (w : World) : ((ReflectliteType.abiMethod fun t => (fun a : Nat => Value.int IntKind.u8 (a : Int)) <$> Rtype.kind t) #[.pointer (some ⟨8, 136, none⟩)]).run Tryd.prog w = .ok (.int .u8 22) w := by kernel_rfl
theorem as_kindE (w : World) : ((ReflectliteType.abiMethod fun t => (fun a : Nat => Value.int IntKind.u8 (a : Int)) <$> Rtype.kind t) #[.pointer (some ⟨8, 87, none⟩)]).run Tryd.prog w = .ok (.int .u8 2) w := by kernel_rfl

/-! ### THE ENTRIES THAT READ OR WRITE MEMORY: laws with a premise on the cell (after Derived/Lib/ReflectliteSlice.lean's manner: each unfolding a lemma of its own, by rfl) -/
theorem rlm (z : Sem Value) (f : TypeId → Addr → Nat → Nat → Sem Value) (v : Value) :
    ReflectliteValue.method z f #[v] = (do match ← ReflectliteValue.parts v with | none => z | some (t, a, fl) => f t a fl (fl % 32)) := rfl
theorem as_partsP (a : Addr) (w : World) : (ReflectliteValue.parts (.agg #[.pointer (some ⟨8, 136, none⟩), .pointer (some a), .int .u64 150])).run Tryd.prog w = .ok (some (136, a, 150)) w := by kernel_rfl
/-- (Value).IsNil at the Value of a **p.E that is not nil. -/
theorem as_isNilP (a p : Addr) (W : World) (ha : W.cell? a = some (.pointer (some p))) :
    (ReflectliteValue.method (ReflectliteValue.valueError "reflectlite.Value.IsNil" 0) ReflectliteValue.isNil #[.agg #[.pointer (some ⟨8, 136, none⟩), .pointer (some a), .int .u64 150]]).run Tryd.prog W = .ok (.bool false) W := by
  rw [rlm]
  simp only [Sem.run_bind, as_partsP, Result.andThen]
  simp [ReflectliteValue.isNil, loadVar, isAgg, underlying, Tryd.underlying136, ha, Result.andThen]

theorem as_methodElem (h : Value) (w : World) : (Go.method 398 200 (.agg #[h]) "Elem").run Tryd.prog w = .ok (235, .agg #[h]) w := by kernel_rfl
theorem as_methodImplements (h : Value) (w : World) : (Go.method 398 200 (.agg #[h]) "Implements").run Tryd.prog w = .ok (236, .agg #[h]) w := by kernel_rfl
theorem as_methodAssignableTo (h : Value) (w : World) : (Go.method 398 200 (.agg #[h]) "AssignableTo").run Tryd.prog w = .ok (233, .agg #[h]) w := by kernel_rfl
theorem as_elemP (w : World) : (ReflectliteType.method ReflectliteType.elem #[.agg #[.pointer (some ⟨8, 136, none⟩)]]).run Tryd.prog w = .ok (.iface 200 (.agg #[.pointer (some ⟨8, 87, none⟩)])) w := by kernel_rfl
theorem as_implementsE (w : World) : (ReflectliteType.relation "Implements" ReflectliteType.implements_ #[.agg #[.pointer (some ⟨8, 87, none⟩)], .iface 200 (.agg #[.pointer (some ⟨8, 27, none⟩)])]).run Tryd.prog w = .ok (.bool true) w := by kernel_rfl
theorem as_typeOfE (v : Value) (w : World) : (ReflectliteType.typeOf #[.iface 87 v]).run Tryd.prog w = .ok (.iface 200 (.agg #[.pointer (some ⟨8, 87, none⟩)])) w := by kernel_rfl
theorem as_assignableE (w : World) : (ReflectliteType.relation "AssignableTo" ReflectliteType.assignableTo #[.agg #[.pointer (some ⟨8, 87, none⟩)], .iface 200 (.agg #[.pointer (some ⟨8, 87, none⟩)])]).run Tryd.prog w = .ok (.bool true) w := by kernel_rfl
theorem as_valueOfE (e : Int) (w : World) : (ReflectliteValue.unpack (.iface 87 (.int .i64 e))).run Tryd.prog w
    = .ok (.agg #[.pointer (some ⟨8, 87, none⟩), .pointer (some ⟨w.heap.size, 0, none⟩), .int .u64 130]) (w.alloc (.cells #[.int .i64 e] 87)) := by kernel_rfl

theorem as_elemOfP (w : World) : (Rtype.elem? 136).run Tryd.prog w = .ok (some 87) w := by kernel_rfl
theorem as_mkE (p : Addr) (w : World) : (ReflectliteValue.mk 87 p ReflectliteValue.flagAddr).run Tryd.prog w = .ok (.agg #[.pointer (some ⟨8, 87, none⟩), .pointer (some p), .int .u64 386]) w := by kernel_rfl
/-- (Value).Elem at the Value of a **p.E that is not nil: the Value of the *p.E variable that it points to, addressable. -/
theorem as_elemVP (a p : Addr) (W : World) (ha : W.cell? a = some (.pointer (some p))) :
    (ReflectliteValue.method (ReflectliteValue.valueError "reflectlite.Value.Elem" 0) ReflectliteValue.elem #[.agg #[.pointer (some ⟨8, 136, none⟩), .pointer (some a), .int .u64 150]]).run Tryd.prog W
      = .ok (.agg #[.pointer (some ⟨8, 87, none⟩), .pointer (some p), .int .u64 386]) W := by
  rw [rlm]
  simp only [Sem.run_bind, as_partsP, Result.andThen]
  simp [ReflectliteValue.elem, loadVar, isAgg, underlying, Tryd.underlying136, ha, Result.andThen, as_elemOfP, as_mkE]
theorem rls (v x : Value) : ReflectliteValue.set #[v, x] = (do
    let (some (dst, a, fl), some (src, b, _)) := (← ReflectliteValue.parts v, ← ReflectliteValue.parts x)
      | unsupported (.noEntry "extern/(internal/reflectlite.Value).Set.zeroValue")
    if fl / ReflectliteValue.flagAddr % 2 == 0 then unsupported (.noEntry "extern/(internal/reflectlite.Value).Set.unaddressable")
    let val ← loadVar src b
    if ← Rtype.directlyAssignable dst src then storeVar dst a val
    else if ← Rtype.implements dst src then
      if (← Rtype.kind src) == 20 then
        match val with
        | .nilIface => unsupported (.noEntry "extern/reflectlite: a nil value of one interface type handed on as a value of another")
        | _ => storeVar dst a val
      else storeVar dst a (.iface src val)
    else panicString ("reflectlite.Set: value of type " ++ (← Rtype.spelt src) ++ " is not assignable to type " ++ (← Rtype.spelt dst))
    pure (.tuple #[])) := rfl
theorem as_partsEa (a : Addr) (w : World) : (ReflectliteValue.parts (.agg #[.pointer (some ⟨8, 87, none⟩), .pointer (some a), .int .u64 386])).run Tryd.prog w = .ok (some (87, a, 386)) w := by kernel_rfl
theorem as_partsE (a : Addr) (w : World) : (ReflectliteValue.parts (.agg #[.pointer (some ⟨8, 87, none⟩), .pointer (some a), .int .u64 130])).run Tryd.prog w = .ok (some (87, a, 130)) w := by kernel_rfl
theorem as_directE (w : World) : (Rtype.directlyAssignable 87 87).run Tryd.prog w = .ok true w := by kernel_rfl
theorem as_sizeE (w : World) : (sizeOf 87).run Tryd.prog w = .ok 1 w := by kernel_rfl
/-- (Value).Set: the *p.E variable at 'ta' gets what the Value's own variable 'b' holds. -/
theorem as_setE (ta b : Addr) (e : Int) (old : Value) (W : World) (hb : W.cell? b = some (.int .i64 e)) (ht : W.cell? ta = some old) (hf : W.frozen? ta = false) :
    (ReflectliteValue.set #[.agg #[.pointer (some ⟨8, 87, none⟩), .pointer (some ta), .int .u64 386], .agg #[.pointer (some ⟨8, 87, none⟩), .pointer (some b), .int .u64 130]]).run Tryd.prog W
      = .ok (.tuple #[]) (W.setCell ta (.int .i64 e)) := by
  rw [rls]
  simp only [Sem.run_bind, as_partsEa, as_partsE, Result.andThen]
  simp [ReflectliteValue.flagAddr, loadVar, isAgg, underlying, Tryd.underlying87, hb, Result.andThen, as_directE, storeVar, Value.cells, storeCells, Addr.add]
  rw [run_store Tryd.prog W ta _ _ (by rfl)]
  simp [ht, hf]

set_option maxRecDepth 100000 in
set_option maxHeartbeats 4000000 in
theorem as_hit (e : Int) (t : Addr) (old : Value) (w : World) (hg : w.cell? ⟨1, 0, none⟩ = some (.iface 200 (.agg #[.pointer (some ⟨8, 27, none⟩)]))) (ht0 : w.cell? t = some old) (hf0 : w.frozen? t = false) :
    Calls Tryd.prog 81 #[.iface 87 (.int .i64 e), .iface 136 (.pointer (some t))] w fun ev w' => ev = .returned (.bool true) ∧ w' = ((((w.alloc (.cells #[.pointer (some t)] 136)).alloc (.cells #[.pointer (some ⟨8, 136, none⟩), .pointer (some ⟨w.heap.size, 0, none⟩), .int .u64 150] 173)).alloc (.cells #[.pointer (some ⟨8, 136, none⟩), .pointer (some ⟨w.heap.size, 0, none⟩), .int .u64 150] 173)).alloc (.cells #[.int .i64 e] 87)).setCell t (.int .i64 e) := by
  have h6 := @run_callFunc_extern Tryd.prog 122 _ (fun args => ReflectliteValue.unpack (args.getD 0 (.tuple #[]))) Tryd.func122 (by kernel_rfl) (by kernel_rfl) (by kernel_rfl) (by kernel_rfl)
  have h7 := @run_callFunc_extern Tryd.prog 123 _ (ReflectliteValue.methodAny (ReflectliteValue.valueError "reflectlite.Value.Type" 0) (fun t _ _ _ => ReflectliteType.toType t)) Tryd.func123 (by kernel_rfl) (by kernel_rfl) (by kernel_rfl) (by kernel_rfl)
  have h8 := @run_callFunc_extern Tryd.prog 124 _ (ReflectliteValue.method (ReflectliteValue.valueError "reflectlite.Value.IsNil" 0) ReflectliteValue.isNil) Tryd.func124 (by kernel_rfl) (by kernel_rfl) (by kernel_rfl) (by kernel_rfl)
  have h27 := @run_callFunc_extern Tryd.prog 224 _ (ReflectliteType.abiMethod fun t => do pure (.int .u8 (← Rtype.kind t))) Tryd.func224 (by kernel_rfl) (by kernel_rfl) (by kernel_rfl) (by kernel_rfl)
  have h37 := @run_callFunc_extern Tryd.prog 235 _ (ReflectliteType.method ReflectliteType.elem) Tryd.func235 (by kernel_rfl) (by kernel_rfl) (by kernel_rfl) (by kernel_rfl)
  have h38 := @run_callFunc_extern Tryd.prog 236 _ (ReflectliteType.relation "Implements" ReflectliteType.implements_) Tryd.func236 (by kernel_rfl) (by kernel_rfl) (by kernel_rfl) (by kernel_rfl)
  have h10 := @run_callFunc_extern Tryd.prog 145 _ ReflectliteType.typeOf Tryd.func145 (by kernel_rfl) (by kernel_rfl) (by kernel_rfl) (by kernel_rfl)
  have h35 := @run_callFunc_extern Tryd.prog 233 _ (ReflectliteType.relation "AssignableTo" ReflectliteType.assignableTo) Tryd.func233 (by kernel_rfl) (by kernel_rfl) (by kernel_rfl) (by kernel_rfl)
  have h11 := @run_callFunc_extern Tryd.prog 146 _ (ReflectliteValue.method (ReflectliteValue.valueError "reflectlite.Value.Elem" 0) ReflectliteValue.elem) Tryd.func146 (by kernel_rfl) (by kernel_rfl) (by kernel_rfl) (by kernel_rfl)
  have h12 := @run_callFunc_extern Tryd.prog 147 _ ReflectliteValue.set Tryd.func147 (by kernel_rfl) (by kernel_rfl) (by kernel_rfl) (by kernel_rfl)
  have tO := as_typeOfE
  have mA := as_methodAssignableTo
  have a25 := as_assignableE
  have v25 := as_valueOfE
  have f6 := as_valueOfP
  have f7 := as_typeP
  have mK := as_methodKind
  have mE := as_methodElem
  have mI := as_methodImplements
  have k27 := as_kindP
  have k25 := as_kindE
  have e27 := as_elemP
  have i25 := as_implementsE
  have n8 := as_isNilP ⟨w.heap.size, 0, none⟩ t ((w.alloc (.cells #[.pointer (some t)] 136)).alloc (.cells #[.pointer (some ⟨8, 136, none⟩), .pointer (some ⟨w.heap.size, 0, none⟩), .int .u64 150] 173)) (by simp)
  have hlt : 1 < w.heap.size := World.block_lt_of_cell? _ _ hg
  have hg2 : ((w.alloc (.cells #[.pointer (some t)] 136)).alloc (.cells #[.pointer (some ⟨8, 136, none⟩), .pointer (some ⟨w.heap.size, 0, none⟩), .int .u64 150] 173)).cell? ⟨1, 0, none⟩ = some (.iface 200 (.agg #[.pointer (some ⟨8, 27, none⟩)])) := by
    rw [World.cell?_alloc_lt _ _ ⟨1, 0, none⟩ (by simp only [World.size_alloc]; omega), World.cell?_alloc_lt _ _ ⟨1, 0, none⟩ hlt]; exact hg
  have htl : t.block < w.heap.size := by
    rcases Nat.lt_or_ge t.block w.heap.size with h | h
    · exact h
    · simp [World.cell?, Array.getElem?_eq_none h] at ht0
  have el := as_elemVP ⟨w.heap.size, 0, none⟩ t (((w.alloc (.cells #[.pointer (some t)] 136)).alloc (.cells #[.pointer (some ⟨8, 136, none⟩), .pointer (some ⟨w.heap.size, 0, none⟩), .int .u64 150] 173)).alloc (.cells #[.pointer (some ⟨8, 136, none⟩), .pointer (some ⟨w.heap.size, 0, none⟩), .int .u64 150] 173)) (by rw [World.cell?_alloc_lt _ _ ⟨w.heap.size, 0, none⟩ (by simp; omega)]; simp)
  have st := as_setE t ⟨w.heap.size + 1 + 1 + 1, 0, none⟩ e old ((((w.alloc (.cells #[.pointer (some t)] 136)).alloc (.cells #[.pointer (some ⟨8, 136, none⟩), .pointer (some ⟨w.heap.size, 0, none⟩), .int .u64 150] 173)).alloc (.cells #[.pointer (some ⟨8, 136, none⟩), .pointer (some ⟨w.heap.size, 0, none⟩), .int .u64 150] 173)).alloc (.cells #[.int .i64 e] 87))
    (by rw [World.cell?_alloc_at _ _ _ _ (by simp)]; rfl)
    (by rw [World.cell?_alloc_lt _ _ t (by simp; omega), World.cell?_alloc_lt _ _ t (by simp; omega), World.cell?_alloc_lt _ _ t (by simp; omega), World.cell?_alloc_lt _ _ t htl]; exact ht0)
    (by rw [World.frozen?_alloc_old _ _ t (by simp; omega), World.frozen?_alloc_old _ _ t (by simp; omega), World.frozen?_alloc_old _ _ t (by simp; omega), World.frozen?_alloc_old _ _ t (Nat.ne_of_lt htl)]; exact hf0)
  go_enter Tryd.func81, Tryd.ntmps81
  go_wp2
  refine wp_loop_rounds 1 ?_
  rw [rounds_succ]
  go_wp2
  go_ret
  exact ⟨rfl, rfl⟩
end Go.Proofs.YtldmofffogjlkaaDoor

/- Contracts: plain.Told, kinsame.Error. Conditions: the library's variable holds the handle of the type error. -/
namespace Go.Proofs.YtldmofffogjlkaaDoor
open Go Go.RowKit

/-- The library's variable holds the handle of the type error. -/
def GlobOk (w : World) : Prop := w.cell? ⟨1, 0, none⟩ = some (.iface 200 (.agg #[.pointer (some ⟨8, 27, none⟩)]))
theorem GlobOk.below {w w' : World} (hb : Below w.heap.size w w') (h : GlobOk w) : GlobOk w' := cell_below hb h
theorem below_al {w w' : World} (h : Below w.heap.size w w') (o : Obj) : Below w.heap.size w (w'.alloc o) := h.alloc h.size o
set_option maxHeartbeats 1000000 in
theorem told_any (k : Int) (w : World) (hg : GlobOk w) : Calls Tryd.prog 35 #[errV k] w fun e w' => e = .returned (.int .i64 k) ∧ Below w.heap.size w w' := by
  by_cases hk : k = 0
  · subst hk
    rw [errV_zero rfl]
    go_enter Tryd.func35, Tryd.ntmps35
    go_wp2_with fail
    go_ret
    exact ⟨rfl, Below.refl _ _⟩
  · rw [errV_some hk]
    clear hk
    have hb0 : Below w.heap.size w (w.alloc (.cells #[.int .i64 0] 87)) := (Below.refl _ _).alloc (Nat.le_refl _) _
    have h1 := as_hit k ⟨w.heap.size, 0, none⟩ (.int .i64 0) (w.alloc (.cells #[.int .i64 0] 87)) (hg.below hb0) (by rw [World.cell?_alloc_at _ _ _ _ rfl]; rfl) (by simp)
    clear hg
    go_enter Tryd.func35, Tryd.ntmps35
    go_wp2_with fail
    refine h1.mono ?_
    clear h1
    rintro e w' ⟨rfl, rfl⟩
    go_wp2_with fail
    go_ret
    refine ⟨rfl, ?_⟩
    exact below_al (below_al (below_al (below_al (below_al (Below.refl _ _) _) _) _) _) _
theorem same_any (k n : Int) (w : World) (hg : GlobOk w) : Calls Tryd.prog 10 #[errV k, .int .i64 n] w fun e w' => e = .returned (.bool (k == n)) ∧ Below w.heap.size w w' := by
  have h1 := told_any k w hg
  generalize errV k = v at *
  clear hg
  go_enter Tryd.func10, Tryd.ntmps10
  go_wp2_with fail
  refine h1.mono ?_
  clear h1
  rintro e w' ⟨rfl, hb⟩
  go_wp2_with fail
  go_ret
  exact ⟨rfl, hb⟩
end Go.Proofs.YtldmofffogjlkaaDoor

/- Contract: the law ChangeMany answers true. -/
namespace Go.Proofs.YtldmofffogjlkaaDoor
open Go Go.RowKit

theorem letters_smc (n : Nat) : Sm (lettersB n) := by
  unfold Sm lettersB
  have h : ∀ a, (abc.extract a (a + 1)).size ≤ 1 := fun a => by simp [ByteArray.size_extract]; omega
  have h1 := h (n / 26 % 26)
  have h2 := h (n % 26)
  rw [ByteArray.size_append]; omega
theorem addC_ok {w : World} (i : Nat) : ChgR w (.slice none 0 0) (.slice none 0 0) (addC i) :=
  have he : Sm .empty := by unfold Sm; show 0 ≤ 1048576; omega
  have hz : I64 0 := ⟨by omega, by omega⟩
  ⟨he, letters_smc i, Sl.nil 0 (Nat.zero_le _) none, Sl.nil 0 (Nat.zero_le _) none, ⟨he, he, he, hz, hz⟩, ⟨he, hz⟩, ⟨hz, hz, he⟩, he⟩
theorem dropC_ok2 {w : World} (i : Nat) : ChgR w (.slice none 0 0) (.slice none 0 0) (dropC i) :=
  have he : Sm .empty := by unfold Sm; show 0 ≤ 1048576; omega
  have hz : I64 0 := ⟨by omega, by omega⟩
  ⟨letters_smc i, he, Sl.nil 0 (Nat.zero_le _) none, Sl.nil 0 (Nat.zero_le _) none, ⟨he, he, he, hz, hz⟩, ⟨he, hz⟩, ⟨hz, hz, he⟩, he⟩
theorem add_post {k : Nat} (hk : k < 15) : ∃ (m' : Nat) (E : Int), cdoS (lineS (min k 12)) (addC k) = lineS m' ∧ cdoE (lineS (min k 12)) (addC k) = E ∧ ((k < 12 ∧ m' = min (k + 1) 12 ∧ E = 0) ∨ (12 ≤ k ∧ min (k + 1) 12 = min k 12 ∧ E = 4)) := by
  rcases Nat.lt_or_ge k 12 with h | h
  · refine ⟨k + 1, 0, ?_, ?_, .inl ⟨h, by omega, rfl⟩⟩
    · rw [show min k 12 = k by omega]; exact add_next h
    · rw [show min k 12 = k by omega]; exact add_facts k h
  · have he : cdoE (lineS 12) (addC k) = 4 := add_full k hk h
    refine ⟨0, 4, ?_, ?_, .inr ⟨h, by omega, rfl⟩⟩
    · rw [show min k 12 = 12 by omega]; unfold cdoS; rw [if_neg (by rw [he]; omega)]; rfl
    · rw [show min k 12 = 12 by omega]; exact he
/-- The schema in the law's own box. -/
structure BoxS (B : Nat) (w wr : World) (n : Nat) (vk vb : Value) (xs : List Value) : Prop where
  b : Below B w wr
  q : wr.heap[B]? = some (.cells #[vk, vb] 25 (0, 0))
  o : OwnS wr B vk vb (lineS n) xs
theorem BoxS.below {B : Nat} {w wr w' : World} {n : Nat} {vk vb : Value} {xs : List Value} (h : BoxS B w wr n vk vb xs) (hb : Below wr.heap.size wr w') : BoxS B w w' n vk vb xs :=
  have hl := (Array.getElem?_eq_some_iff.1 h.q).1
  ⟨h.b.trans (hb.mono (by omega)), (hb.block _ hl).trans h.q, h.o.below hb⟩
/-- Another schema is put into the box. -/
theorem BoxS.put {B : Nat} {w wr w' : World} {n m : Nat} {vk vb uk ub : Value} {xs ys : List Value} (h : BoxS B w wr n vk vb xs) (hb : Below wr.heap.size wr w') (ho : OwnS w' wr.heap.size uk ub (lineS m) ys) :
    BoxS B w ((w'.setCell ⟨B, 0, none⟩ uk).setCell ⟨B, 1, none⟩ ub) m uk ub ys := by
  have hl := (Array.getElem?_eq_some_iff.1 h.q).1
  have hq := (hb.block _ hl).trans h.q
  have hp := setCell_block hq 0 uk
  have hp2 := setCell_block hp 1 ub
  have hsm : ∀ T, 25 ≠ T → Same T w' ((w'.setCell ⟨B, 0, none⟩ uk).setCell ⟨B, 1, none⟩ ub) := fun T hT =>
    (Same.setCell (p := ⟨B, 0, none⟩) hq hT _).trans (Same.setCell (p := ⟨B, 1, none⟩) hp hT _)
  exact ⟨((h.b.trans (hb.mono (by omega))).setCell (p := ⟨B, 0, none⟩) (Nat.le_refl _) _).setCell (p := ⟨B, 1, none⟩) (Nat.le_refl _) _, hp2,
    (ho.same (hsm _ (by decide)) (hsm _ (by decide)) (hsm _ (by decide)) (hsm _ (by decide))).mono (by omega)⟩
theorem BoxS.swap {B : Nat} {w wr : World} {n m : Nat} {vk vb uk ub : Value} {xs ys : List Value} (h : BoxS B w wr n vk vb xs) (ho : OwnS wr B uk ub (lineS m) ys) :
    BoxS B w ((wr.setCell ⟨B, 0, none⟩ uk).setCell ⟨B, 1, none⟩ ub) m uk ub ys := by
  have hp := setCell_block h.q 0 uk
  have hp2 := setCell_block hp 1 ub
  have hsm : ∀ T, 25 ≠ T → Same T wr ((wr.setCell ⟨B, 0, none⟩ uk).setCell ⟨B, 1, none⟩ ub) := fun T hT =>
    (Same.setCell (p := ⟨B, 0, none⟩) h.q hT _).trans (Same.setCell (p := ⟨B, 1, none⟩) hp hT _)
  exact ⟨(h.b.setCell (p := ⟨B, 0, none⟩) (Nat.le_refl _) _).setCell (p := ⟨B, 1, none⟩) (Nat.le_refl _) _, hp2, ho.same (hsm _ (by decide)) (hsm _ (by decide)) (hsm _ (by decide)) (hsm _ (by decide))⟩
/-- The old schema in the law's box, the new one in another box. -/
structure AddR (B : Nat) (w wx : World) (b m : Nat) (vk vb : Value) (xs : List Value) (uk ub : Value) (m' : Nat) (ys : List Value) : Prop where
  box : BoxS B w wx m vk vb xs
  q : wx.heap[b]? = some (.cells #[uk, ub] 25 (0, 0))
  o : OwnS wx B uk ub (lineS m') ys
theorem AddR.below {B : Nat} {w wx w' : World} {b m m' : Nat} {vk vb uk ub : Value} {xs ys : List Value} (h : AddR B w wx b m vk vb xs uk ub m' ys) (hb : Below wx.heap.size wx w') : AddR B w w' b m vk vb xs uk ub m' ys :=
  ⟨h.box.below hb, (hb.block _ (Array.getElem?_eq_some_iff.1 h.q).1).trans h.q, h.o.below hb⟩
theorem AddR.late {B : Nat} {w w3 : World} {m m' B' : Nat} {vk vb uk ub : Value} {xs ys : List Value} (h : BoxS B w w3 m vk vb xs) (ho : OwnS w3 B' uk ub (lineS m') ys) (hB : B ≤ B') :
    AddR B w (w3.alloc (.cells #[uk, ub] 25)) w3.heap.size m vk vb xs uk ub m' ys :=
  have hx : Below w3.heap.size w3 (w3.alloc (.cells #[uk, ub] 25)) := (Below.refl _ _).alloc (Nat.le_refl _) _
  ⟨h.below hx, heap_alloc_new _ _, (ho.below hx).mono hB⟩
theorem AddR.soon {B : Nat} {w w3 : World} {b m m' B' : Nat} {vk vb uk ub : Value} {xs ys : List Value} {c0 c1 : Value} (h : BoxS B w w3 m vk vb xs) (ho : OwnS w3 B' uk ub (lineS m') ys) (hB : B ≤ B')
    (hq : w3.heap[b]? = some (.cells #[c0, c1] 25 (0, 0))) (hb : B < b) :
    AddR B w ((w3.setCell ⟨b, 0, none⟩ uk).setCell ⟨b, 1, none⟩ ub) b m vk vb xs uk ub m' ys := by
  have hp := setCell_block hq 0 uk
  have hp2 := setCell_block hp 1 ub
  have hsm : ∀ T, 25 ≠ T → Same T w3 ((w3.setCell ⟨b, 0, none⟩ uk).setCell ⟨b, 1, none⟩ ub) := fun T hT =>
    (Same.setCell (p := ⟨b, 0, none⟩) hq hT _).trans (Same.setCell (p := ⟨b, 1, none⟩) hp hT _)
  refine ⟨⟨(h.b.setCell (p := ⟨b, 0, none⟩) (by show B ≤ b; omega) _).setCell (p := ⟨b, 1, none⟩) (by show B ≤ b; omega) _, ?_, h.o.same (hsm _ (by decide)) (hsm _ (by decide)) (hsm _ (by decide)) (hsm _ (by decide))⟩, hp2,
    (ho.same (hsm _ (by decide)) (hsm _ (by decide)) (hsm _ (by decide)) (hsm _ (by decide))).mono hB⟩
  rw [Below.heap_setCell _ _ _ _ (by show B ≠ b; omega), Below.heap_setCell _ _ _ _ (by show B ≠ b; omega)]
  exact h.q
set_option maxRecDepth 100000 in
set_option maxHeartbeats 16000000 in
theorem changeMany_any (n : Int) (w : World) (hg : GlobOk w) (_hn : I64 n) :
    Calls Tryd.prog 3 #[.int .i64 n] w fun e w' => e = .returned (.bool true) ∧ Below w.heap.size w w' := by
  by_cases hout : n < 0 ∨ 15 < n
  · rcases hout with h | h
    all_goals
      clear hg
      go_enter Tryd.func3, Tryd.ntmps3
      go_wp2_with fail
      all_goals go_ret
      all_goals exact ⟨rfl, Below.refl _ _⟩
  obtain ⟨N, rfl⟩ : ∃ k : Nat, n = k := ⟨n.toNat, by omega⟩
  have hN0 : (0 : Int) ≤ (N : Int) := by omega
  have hN15 : (N : Int) ≤ 15 := by omega
  have HG := Lib.hid hg
  have hI0 : BoxS w.heap.size w (w.alloc (.cells #[.slice none 0 0, .slice none 0 0] 25)) 0 (.slice none 0 0) (.slice none 0 0) [] :=
    ⟨(Below.refl _ _).alloc (Nat.le_refl _) _, heap_alloc_new _ _, OwnS.none _ _⟩
  have HI0 := Lib.hid hI0
  clear hout hg hI0
  go_enter Tryd.func3, Tryd.ntmps3
  go_wp2_with fail
  go_loopw [4] (fun i wr => ∃ (k : Nat) (vk vb : Value) (xs : List Value), k ≤ N ∧ i = .int .i64 k ∧ BoxS w.heap.size w wr (min k 12) vk vb xs) (fun i _ => N - (intOf i).toNat)
  case atStart => exact ⟨0, _, _, _, Nat.zero_le _, rfl, HI0.out⟩
  case round =>
    clear HI0
    obtain ⟨k, vk, vb, xs, hk, rfl, hI⟩ := hrel
    obtain ⟨A1, c1, hv1, _, _⟩ := hI.o.n.form
    obtain ⟨A2, c2, hv2, _, _⟩ := hI.o.b.form
    rw [lineS_kinds] at hv1
    have hv2 : vb = .slice A2 0 c2 := hv2
    subst hv1; subst hv2
    have HI := Lib.hid hI
    have x0 := block_cell hI.q 0
    have x1 := block_cell hI.q 1
    have hwl := hI.b.size
    by_cases hlt : k < N
    · have hlt' : (k : Int) < (N : Int) := by omega
      have hlet : ∀ W, Calls Tryd.prog 9 #[.int .i64 (k : Int)] W fun e w' => e = .returned (.string (lettersB k)) ∧ Below W.heap.size W w' := fun W => letters_any k W (by omega)
      have hbd : Below wr.heap.size wr wr.drew := (Below.refl _ _).drew
      have hbx : Below wr.heap.size wr (wr.alloc (.cells #[.slice none 0 0, .slice none 0 0] 25)).drew := ((Below.refl _ _).alloc (Nat.le_refl _) _).drew
      have hzx : ((wr.alloc (.cells #[.slice none 0 0, .slice none 0 0] 25)).drew).heap[wr.heap.size]? = some (.cells #[.slice none 0 0, .slice none 0 0] 25 (0, 0)) := heap_alloc_new wr _
      have hwr1 : w.heap.size < wr.heap.size := (Array.getElem?_eq_some_iff.1 HI.out.q).1
      have hn1 : wr.heap.size ≠ w.heap.size := by omega
      have hkeep := And.intro (cell_below hbd x0) (cell_below hbd x1)
      have HDO : Hid (∀ W, Below wr.heap.size wr W → Calls Tryd.prog 8 #[.agg #[.slice A1 (min k 12) c1, .slice A2 0 c2], .agg #[.int .i64 1, .string ⟨#[]⟩, .string (lettersB k), .slice none 0 0, .slice none 0 0, .string ⟨#[]⟩, .string ⟨#[]⟩, .string ⟨#[]⟩, .int .i64 0, .int .i64 0, .string ⟨#[]⟩, .int .i64 0, .bool false, .bool false, .int .i64 0, .int .i64 0, .string ⟨#[]⟩, .string ⟨#[]⟩]] W
          (RetSO (cdoS (lineS (min k 12)) (addC k)) (cdoE (lineS (min k 12)) (addC k)) W)) := fun W h => by
        have := cDoO_any (lineS (min k 12)) (addC k) (.slice A1 (min k 12) c1) (.slice A2 0 c2) (.slice none 0 0) (.slice none 0 0) W (HI.out.o.below h).r (addC_ok k) (Nat.zero_le _) (Nat.zero_le _)
        exact this
      obtain ⟨m', E, hpS, hpE, hF⟩ := add_post (k := k) (by omega)
      rw [hpS, hpE] at HDO
      have HF := Lib.hid hF
      generalize hm : min k 12 = m at *
      clear hI hF hpS hpE
      go_upto_region 7 with fail
      go_cut [5, 6] from 22 to 30 (fun p z wx => ∃ (b : Nat) (A3 : Option Addr) (c3 : Nat) (A4 : Option Addr) (c4 : Nat) (ys : List Value), p = .pointer (some ⟨b, 0, none⟩) ∧ z = errV E ∧ AddR w.heap.size w wx b m (.slice A1 m c1) (.slice A2 0 c2) xs (.slice A3 m' c3) (.slice A4 0 c4) m' ys)
      case first =>
        go_region_held3 (fun w' => w'.cell? ⟨w.heap.size, 0, none⟩ = some (.slice A1 m c1) ∧ w'.cell? ⟨w.heap.size, 1, none⟩ = some (.slice A2 0 c2))
          (first
            | exact hkeep
            | go_keep)
          (first
            | (go_at_call 9
               refine (hlet _).mono ?_
               rintro e w2 ⟨rfl, hb2⟩
               first
                 | (have hb2' : Below wr.heap.size wr w2 := hbd.trans (hb2.mono hbd.size))
                 | (have hb2' : Below wr.heap.size wr w2 := hbx.trans (hb2.mono hbx.size)
                    have hz2 := (hb2.block _ (Array.getElem?_eq_some_iff.1 hzx).1).trans hzx)
               have hkeep := And.intro (cell_below hb2' x0) (cell_below hb2' x1))
            | (go_at_call 8
               first
                 | (refine (HDO.out w2 hb2').mono ?_
                    rintro e w3 ⟨u3, v3, ys, rfl, ho3, hb3⟩
                    have hb23 := hb2'.trans (hb3.mono hb2'.size)
                    have hz3 := (hb3.block _ (Array.getElem?_eq_some_iff.1 hz2).1).trans hz2
                    have a0 := block_free hz3 0
                    have a1 := block_free hz3 1
                    have a2 := block_cell hz3 0
                    have a3 := block_cell hz3 1)
                 | (refine (HDO.out w2 hb2').mono ?_
                    rintro e w3 ⟨u3, v3, ys, rfl, ho3, hb3⟩
                    have hb23 := hb2'.trans (hb3.mono hb2'.size))
                 | (have hb2a := hb2'.alloc hb2'.size (.cells #[.slice none 0 0, .slice none 0 0] 25)
                    refine (HDO.out (w2.alloc (.cells #[.slice none 0 0, .slice none 0 0] 25)) hb2a).mono ?_
                    rintro e w3 ⟨u3, v3, ys, rfl, ho3, hb3⟩
                    have hb23 := hb2a.trans (hb3.mono hb2a.size)
                    have hn2 : w2.heap.size ≠ w.heap.size := by have := hb2'.size; omega
                    have hzn := heap_alloc_new w2 (.cells #[.slice none 0 0, .slice none 0 0] 25)
                    have hz3 := (hb3.block _ (Array.getElem?_eq_some_iff.1 hzn).1).trans hzn
                    have a0 := block_free hz3 0
                    have a1 := block_free hz3 1
                    have a2 := block_cell hz3 0
                    have a3 := block_cell hz3 1)
               obtain ⟨A3, c3, hv3, _, _⟩ := ho3.n.form
               obtain ⟨A4, c4, hv4, _, _⟩ := ho3.b.form
               rw [lineS_kinds] at hv3
               have hv4 : v3 = .slice A4 0 c4 := hv4
               subst hv3
               subst hv4
               have hkeep := And.intro (cell_below hb23 x0) (cell_below hb23 x1)
               first
                 | (have hfin := AddR.soon (HI.out.below hb23) ho3 (by have := hb2'.size; first | omega | (simp only [World.size_alloc]; omega)) hz3 (by have := hb2'.size; omega))
                 | (have hfin := AddR.late (HI.out.below hb23) ho3 (by have := hb2'.size; omega))))
        all_goals
          clear ho3 hb3 hb23
          go_wp2_with fail
          go_meet
          exact ⟨_, _, _, _, _, _, rfl, rfl, hfin⟩
      case rest =>
      obtain ⟨b, A3, c3, A4, c4, ys, rfl, rfl, hA⟩ := hcut
      clear hkeep hn1 hzx hbx hbd hlet HDO HI x0 x1
      rcases HF.out with ⟨h12, hm', hE⟩ | ⟨h12, hm', hE⟩
      · subst hE
        have hs := same_any 0 4 wc (HG.out.below hA.box.b)
        rw [errV_zero rfl] at hs ⊢
        have h12' : (k : Int) < 12 := by omega
        have HA := Lib.hid hA
        have HM := Lib.hid hm'
        clear hA HF h12 hm'
        go_wp2_with fail
        refine hs.mono ?_
        clear hs
        rintro e w5 ⟨rfl, hb5⟩
        have hA := HA.out.below hb5
        have y0 := block_cell hA.q 0
        have y1 := block_cell hA.q 1
        have z0 := block_cell hA.box.q 0
        have z1 := block_cell hA.box.q 1
        have f0 := block_free hA.box.q 0
        have f1 := block_free hA.box.q 1
        have HN := Lib.hid (hA.box.swap hA.o)
        clear hA HA hb5
        go_wp2_with fail
        go_roundw
        case rel => exact ⟨k + 1, _, _, _, by omega, by go_num, by rw [← HM.out]; exact HN.out⟩
        case measure => simp [intOf]; omega
      · subst hE
        have hs := same_any 4 4 wc (HG.out.below hA.box.b)
        have hv4 : errV 4 = .iface 87 (.int .i64 4) := rfl
        rw [hv4] at hs ⊢
        have h12' : (12 : Int) ≤ (k : Int) := by omega
        have HA := Lib.hid hA.box
        have HM := Lib.hid hm'
        clear hA HF h12 hm' hv4
        go_wp2_with fail
        refine hs.mono ?_
        clear hs
        rintro e w5 ⟨rfl, hb5⟩
        have HN := Lib.hid (HA.out.below hb5)
        clear HA hb5
        go_wp2_with fail
        go_roundw
        case rel => exact ⟨k + 1, _, _, _, by omega, by go_num, by rw [HM.out]; exact HN.out⟩
        case measure => simp [intOf]; omega
    · obtain rfl : k = N := by omega
      have hm12 : min k 12 ≤ 12 := by omega
      generalize hm : min k 12 = m at *
      have hm12' : (m : Int) ≤ 12 := by omega
      have HI := Lib.hid hI
      clear hI hm
      go_wp2_with fail
      go_loopw [8] (fun i wr => ∃ (z : Int) (j : Nat) (vk vb : Value) (xs : List Value), j ≤ 12 ∧ z = (j : Int) - 1 ∧ i = .int .i64 z ∧ BoxS w.heap.size w wr j vk vb xs) (fun i _ => (intOf i + 1).toNat)
      case atStart => exact ⟨_, m, _, _, _, hm12, rfl, rfl, HI.out⟩
      case round =>
        clear HI x0 x1
        obtain ⟨z, j, vk, vb, xs, hj, hz, rfl, hI⟩ := hrel
        obtain ⟨A1, c1, hv1, _, _⟩ := hI.o.n.form
        obtain ⟨A2, c2, hv2, _, _⟩ := hI.o.b.form
        rw [lineS_kinds] at hv1
        have hv2 : vb = .slice A2 0 c2 := hv2
        subst hv1; subst hv2
        have HI := Lib.hid hI
        have x0 := block_cell hI.q 0
        have x1 := block_cell hI.q 1
        have hwr1 : w.heap.size < wr.heap.size := (Array.getElem?_eq_some_iff.1 hI.q).1
        cases j with
        | zero =>
          have hz0 : z < 0 := by omega
          have hz1 : decide ((0 : Int) ≤ z) = false := decide_eq_false (by omega)
          clear hI hz
          go_wp2_with fail
          go_ret
          exact ⟨rfl, HI.out.b⟩
        | succ p =>
          obtain rfl : z = (p : Int) := by omega
          obtain ⟨gb, o, c0', hv, hgb1, hgb2⟩ := hI.o.n.addr (by rw [lineS_kinds]; omega)
          injection hv with hv1 hv2 hv3
          subst hv1
          clear hv2 hv3
          obtain ⟨u, x, k0, k1, k2, _⟩ := hI.o.o.get (lineS_at (n := p + 1) (k := p) (by omega))
          have hnm : wr.cell? ⟨gb, o + p * 3, none⟩ = some (.string (lettersB p)) := by
            have hn := hI.o.n
            rw [lineS_kinds] at hn
            exact hn.cell rfl k0
          have hp0 : (0 : Int) ≤ (p : Int) := by omega
          have hpl : (p : Int) < ((p + 1 : Nat) : Int) := by omega
          have hpl2 : (p : Int) < (p : Int) + 1 := by omega
          have hbd : Below wr.heap.size wr wr.drew := (Below.refl _ _).drew
          have hbx : Below wr.heap.size wr (wr.alloc (.cells #[.slice none 0 0, .slice none 0 0] 25)).drew := ((Below.refl _ _).alloc (Nat.le_refl _) _).drew
          have hzx : ((wr.alloc (.cells #[.slice none 0 0, .slice none 0 0] 25)).drew).heap[wr.heap.size]? = some (.cells #[.slice none 0 0, .slice none 0 0] 25 (0, 0)) := heap_alloc_new wr _
          have hn1 : wr.heap.size ≠ w.heap.size := by omega
          have hn2 : wr.heap.size ≠ gb := by omega
          have hkeep := And.intro (cell_below hbd x0) (And.intro (cell_below hbd x1) (cell_below hbd hnm))
          obtain ⟨hE, hS⟩ := drop_facts p (by omega)
          have HDO : Hid (∀ W, Below wr.heap.size wr W → Calls Tryd.prog 8 #[.agg #[.slice (some ⟨gb, o, none⟩) (p + 1) c1, .slice A2 0 c2], .agg #[.int .i64 2, .string (lettersB p), .string ⟨#[]⟩, .slice none 0 0, .slice none 0 0, .string ⟨#[]⟩, .string ⟨#[]⟩, .string ⟨#[]⟩, .int .i64 0, .int .i64 0, .string ⟨#[]⟩, .int .i64 0, .bool false, .bool false, .int .i64 0, .int .i64 0, .string ⟨#[]⟩, .string ⟨#[]⟩]] W
              (RetSO (lineS p) 0 W)) := fun W h => by
            have := cDoO_any (lineS (p + 1)) (dropC p) (.slice (some ⟨gb, o, none⟩) (p + 1) c1) (.slice A2 0 c2) (.slice none 0 0) (.slice none 0 0) W (HI.out.o.below h).r (dropC_ok2 p) (Nat.zero_le _) (Nat.zero_le _)
            rw [hE, hS] at this
            exact this
          clear hI hE hS hz k0 k1 k2
          go_upto_region 16 with fail
          go_cut [9, 10] from 58 to 69 (fun q z wx => ∃ (b : Nat) (A3 : Option Addr) (c3 : Nat) (A4 : Option Addr) (c4 : Nat) (ys : List Value), q = .pointer (some ⟨b, 0, none⟩) ∧ z = .nilIface ∧ AddR w.heap.size w wx b (p + 1) (.slice (some ⟨gb, o, none⟩) (p + 1) c1) (.slice A2 0 c2) xs (.slice A3 p c3) (.slice A4 0 c4) p ys)
          case first =>
            go_region_held3 (fun w' => w'.cell? ⟨w.heap.size, 0, none⟩ = some (.slice (some ⟨gb, o, none⟩) (p + 1) c1) ∧ w'.cell? ⟨w.heap.size, 1, none⟩ = some (.slice A2 0 c2) ∧ w'.cell? ⟨gb, o + p * 3, none⟩ = some (.string (lettersB p)))
              (first
                | exact hkeep
                | go_keep)
              (first
                | (go_at_call 8
                   first
                     | (refine (HDO.out wr.drew hbd).mono ?_
                        rintro e w3 ⟨u3, v3, ys, rfl, ho3, hb3⟩
                        have hb23 := hbd.trans (hb3.mono hbd.size)
                        have hol : w.heap.size ≤ wr.drew.heap.size := Nat.le_of_lt hwr1)
                     | (refine (HDO.out _ hbx).mono ?_
                        rintro e w3 ⟨u3, v3, ys, rfl, ho3, hb3⟩
                        have hb23 := hbx.trans (hb3.mono hbx.size)
                        have hol : w.heap.size ≤ (wr.alloc (.cells #[.slice none 0 0, .slice none 0 0] 25)).drew.heap.size := Nat.le_trans (Nat.le_of_lt hwr1) hbx.size
                        have hz3 := (hb3.block _ (Array.getElem?_eq_some_iff.1 hzx).1).trans hzx
                        have a0 := block_free hz3 0
                        have a1 := block_free hz3 1
                        have a2 := block_cell hz3 0
                        have a3 := block_cell hz3 1)
                   obtain ⟨A3, c3, hv3, _, _⟩ := ho3.n.form
                   obtain ⟨A4, c4, hv4, _, _⟩ := ho3.b.form
                   rw [lineS_kinds] at hv3
                   have hv4 : v3 = .slice A4 0 c4 := hv4
                   subst hv3
                   subst hv4
                   rw [errV_zero rfl]
                   have hkeep := And.intro (cell_below hb23 x0) (And.intro (cell_below hb23 x1) (cell_below hb23 hnm))
                   first
                     | (have hfin := AddR.soon (HI.out.below hb23) ho3 hol hz3 hwr1)
                     | (have hfin := AddR.late (HI.out.below hb23) ho3 hol)))
            all_goals
              clear ho3 hb3 hb23
              go_wp2_with fail
              go_meet
              exact ⟨_, _, _, _, _, _, rfl, rfl, hfin⟩
          case rest =>
          obtain ⟨b, A3, c3, A4, c4, ys, rfl, rfl, hA⟩ := hcut
          clear hkeep hn1 hn2 hzx hbx hbd HDO HI x0 x1 hnm
          have y0 := block_cell hA.q 0
          have y1 := block_cell hA.q 1
          have z0 := block_cell hA.box.q 0
          have z1 := block_cell hA.box.q 1
          have f0 := block_free hA.box.q 0
          have f1 := block_free hA.box.q 1
          have HN := Lib.hid (hA.box.swap hA.o)
          have hpw : (p : Int) ≤ 12 := by omega
          clear hA
          go_wp2_with fail
          go_roundw
          case rel => exact ⟨_, p, _, _, _, by omega, rfl, rfl, HN.out⟩
          case measure => simp [intOf]
end Go.Proofs.YtldmofffogjlkaaDoor
