/- Parts: As, Told, STells. -/
import Derived.Test.YtfjnkidblalckaaGreatDoorMg01
import Derived.Test.YtfjnkidblalckaaGreatDoorRows
import Derived.WalkKit
import Derived.LaidEql
import Derived.Stop.Asserts
import Derived.RowKitTokens
import Derived.Test.YtfjnkidblalckaaGreatDoorMg14
import Derived.Test.YtfjnkidblalckaaGreatDoorMg17
import Derived.Test.YtfjnkidblalckaaGreatDoorMg22
import Derived.Deep.DeepCutAuto
import Derived.Deep.CutBlock
/- errors.As at a target of the program's own error type (a number): its contracts, turned from the guide's worked example. Conditions: the library's variable holds the handle of the type error. -/
namespace Go.Proofs.YtfjnkidblalckaaGreatDoor
open Go.RowKit Go.Extern.Stop Go.Stop Go.Extern

/-- errors.As(nil, target). -/
theorem as_nil (t : Value) (w : World) :
    Calls Tryz.prog 31 #[.nilIface, t] w fun e w' => e = .returned (.bool false) ∧ w' = w := by
  go_enter Tryz.func31, Tryz.ntmps31
  go_wp2
  go_ret
  exact ⟨rfl, rfl⟩

/-! ### CLOSED FACTS ON THE MODEL's ENTRIES FOR internal/reflectlite, at this program's types: 25: *p.E · 27: **p.E · 23: error · 45: reflectlite's rtype · 1: how many package-level variables the dump has -/
theorem as_valueOfP (t : Addr) (w : World) : (ReflectliteValue.unpack (.iface 79 (.pointer (some t)))).run Tryz.prog w
    = .ok (.agg #[.pointer (some ⟨2, 79, none⟩), .pointer (some ⟨w.heap.size, 0, none⟩), .int .u64 150]) (w.alloc (.cells #[.pointer (some t)] 79)) := by kernel_rfl
theorem as_typeP (a : Addr) (w : World) : (ReflectliteValue.methodAny (ReflectliteValue.valueError "reflectlite.Value.Type" 0) (fun t _ _ _ => ReflectliteType.toType t) #[.agg #[.pointer (some ⟨2, 79, none⟩), .pointer (some a), .int .u64 150]]).run Tryz.prog w
    = .ok (.iface 124 (.agg #[.pointer (some ⟨2, 79, none⟩)])) w := by kernel_rfl
theorem as_methodKind (h : Value) (w : World) : (Go.method 299 124 (.agg #[h]) "Kind").run Tryz.prog w = .ok (112, h) w := by kernel_rfl
theorem as_kindP (w : World) : ((ReflectliteType.abiMethod fun t => (fun a : Nat => Value.int IntKind.u8 (a : Int)) <$> Rtype.kind t) #[.pointer (some ⟨2, 79, none⟩)]).run Tryz.prog w = .ok (.int .u8 22) w := by kernel_rfl
theorem as_kindE (w : World) : ((ReflectliteType.abiMethod fun t => (fun a : Nat => Value.int IntKind.u8 (a : Int)) <$> Rtype.kind t) #[.pointer (some ⟨2, 62, none⟩)]).run Tryz.prog w = .ok (.int .u8 2) w := by kernel_rfl

/-! ### THE ENTRIES THAT READ OR WRITE MEMORY: laws with a premise on the cell (after Derived/Lib/ReflectliteSlice.lean's manner: each unfolding a lemma of its own, by rfl) -/
theorem rlm (z : Sem Value) (f : TypeId → Addr → Nat → Nat → Sem Value) (v : Value) :
    ReflectliteValue.method z f #[v] = (do match ← ReflectliteValue.parts v with | none => z | some (t, a, fl) => f t a fl (fl % 32)) := rfl
theorem as_partsP (a : Addr) (w : World) : (ReflectliteValue.parts (.agg #[.pointer (some ⟨2, 79, none⟩), .pointer (some a), .int .u64 150])).run Tryz.prog w = .ok (some (79, a, 150)) w := by kernel_rfl
/-- (Value).IsNil at the Value of a **p.E that is not nil. -/
theorem as_isNilP (a p : Addr) (W : World) (ha : W.cell? a = some (.pointer (some p))) :
    (ReflectliteValue.method (ReflectliteValue.valueError "reflectlite.Value.IsNil" 0) ReflectliteValue.isNil #[.agg #[.pointer (some ⟨2, 79, none⟩), .pointer (some a), .int .u64 150]]).run Tryz.prog W = .ok (.bool false) W := by
  rw [rlm]
  simp only [Sem.run_bind, as_partsP, Result.andThen]
  simp [ReflectliteValue.isNil, loadVar, isAgg, underlying, Tryz.underlying79, ha, Result.andThen]

theorem as_methodElem (h : Value) (w : World) : (Go.method 299 124 (.agg #[h]) "Elem").run Tryz.prog w = .ok (122, .agg #[h]) w := by kernel_rfl
theorem as_methodImplements (h : Value) (w : World) : (Go.method 299 124 (.agg #[h]) "Implements").run Tryz.prog w = .ok (123, .agg #[h]) w := by kernel_rfl
theorem as_methodAssignableTo (h : Value) (w : World) : (Go.method 299 124 (.agg #[h]) "AssignableTo").run Tryz.prog w = .ok (120, .agg #[h]) w := by kernel_rfl
theorem as_elemP (w : World) : (ReflectliteType.method ReflectliteType.elem #[.agg #[.pointer (some ⟨2, 79, none⟩)]]).run Tryz.prog w = .ok (.iface 124 (.agg #[.pointer (some ⟨2, 62, none⟩)])) w := by kernel_rfl
theorem as_implementsE (w : World) : (ReflectliteType.relation "Implements" ReflectliteType.implements_ #[.agg #[.pointer (some ⟨2, 62, none⟩)], .iface 124 (.agg #[.pointer (some ⟨2, 45, none⟩)])]).run Tryz.prog w = .ok (.bool true) w := by kernel_rfl
theorem as_typeOfE (v : Value) (w : World) : (ReflectliteType.typeOf #[.iface 62 v]).run Tryz.prog w = .ok (.iface 124 (.agg #[.pointer (some ⟨2, 62, none⟩)])) w := by kernel_rfl
theorem as_assignableE (w : World) : (ReflectliteType.relation "AssignableTo" ReflectliteType.assignableTo #[.agg #[.pointer (some ⟨2, 62, none⟩)], .iface 124 (.agg #[.pointer (some ⟨2, 62, none⟩)])]).run Tryz.prog w = .ok (.bool true) w := by kernel_rfl
theorem as_valueOfE (e : Int) (w : World) : (ReflectliteValue.unpack (.iface 62 (.int .i64 e))).run Tryz.prog w
    = .ok (.agg #[.pointer (some ⟨2, 62, none⟩), .pointer (some ⟨w.heap.size, 0, none⟩), .int .u64 130]) (w.alloc (.cells #[.int .i64 e] 62)) := by kernel_rfl

theorem as_elemOfP (w : World) : (Rtype.elem? 79).run Tryz.prog w = .ok (some 62) w := by kernel_rfl
theorem as_mkE (p : Addr) (w : World) : (ReflectliteValue.mk 62 p ReflectliteValue.flagAddr).run Tryz.prog w = .ok (.agg #[.pointer (some ⟨2, 62, none⟩), .pointer (some p), .int .u64 386]) w := by kernel_rfl
/-- (Value).Elem at the Value of a **p.E that is not nil: the Value of the *p.E variable that it points to, addressable. -/
theorem as_elemVP (a p : Addr) (W : World) (ha : W.cell? a = some (.pointer (some p))) :
    (ReflectliteValue.method (ReflectliteValue.valueError "reflectlite.Value.Elem" 0) ReflectliteValue.elem #[.agg #[.pointer (some ⟨2, 79, none⟩), .pointer (some a), .int .u64 150]]).run Tryz.prog W
      = .ok (.agg #[.pointer (some ⟨2, 62, none⟩), .pointer (some p), .int .u64 386]) W := by
  rw [rlm]
  simp only [Sem.run_bind, as_partsP, Result.andThen]
  simp [ReflectliteValue.elem, loadVar, isAgg, underlying, Tryz.underlying79, ha, Result.andThen, as_elemOfP, as_mkE]
theorem rls (v x : Value) : ReflectliteValue.set #[v, x] = (do
    let (some (dst, a, fl), some (src, b, _)) := (← ReflectliteValue.parts v, ← ReflectliteValue.parts x)
      | unsupported (.noEntry "extern/(internal/reflectlite.Value).Set.zeroValue")
    if fl / ReflectliteValue.flagAddr % 2 == 0 then unsupported (.noEntry "extern/(internal/reflectlite.Value).Set.unaddressable")
    let val ← loadVar src b
    if ← Rtype.directlyAssignable dst src then storeVar dst a val
    else if ← Rtype.implements dst src then
      if (← Rtype.kind src) == 20 then
        match val with
        | .nilIface => unsupported (.noEntry "extern/reflectlite: a nil value of one interface type handed on as a value of another")
        | _ => storeVar dst a val
      else storeVar dst a (.iface src val)
    else panicString ("reflectlite.Set: value of type " ++ (← Rtype.spelt src) ++ " is not assignable to type " ++ (← Rtype.spelt dst))
    pure (.tuple #[])) := rfl
theorem as_partsEa (a : Addr) (w : World) : (ReflectliteValue.parts (.agg #[.pointer (some ⟨2, 62, none⟩), .pointer (some a), .int .u64 386])).run Tryz.prog w = .ok (some (62, a, 386)) w := by kernel_rfl
theorem as_partsE (a : Addr) (w : World) : (ReflectliteValue.parts (.agg #[.pointer (some ⟨2, 62, none⟩), .pointer (some a), .int .u64 130])).run Tryz.prog w = .ok (some (62, a, 130)) w := by kernel_rfl
theorem as_directE (w : World) : (Rtype.directlyAssignable 62 62).run Tryz.prog w = .ok true w := by kernel_rfl
theorem as_sizeE (w : World) : (sizeOf 62).run Tryz.prog w = .ok 1 w := by kernel_rfl
/-- (Value).Set: the *p.E variable at 'ta' gets what the Value's own variable 'b' holds. -/
theorem as_setE (ta b : Addr) (e : Int) (old : Value) (W : World) (hb : W.cell? b = some (.int .i64 e)) (ht : W.cell? ta = some old) (hf : W.frozen? ta = false) :
    (ReflectliteValue.set #[.agg #[.pointer (some ⟨2, 62, none⟩), .pointer (some ta), .int .u64 386], .agg #[.pointer (some ⟨2, 62, none⟩), .pointer (some b), .int .u64 130]]).run Tryz.prog W
      = .ok (.tuple #[]) (W.setCell ta (.int .i64 e)) := by
  rw [rls]
  simp only [Sem.run_bind, as_partsEa, as_partsE, Result.andThen]
  simp [ReflectliteValue.flagAddr, loadVar, isAgg, underlying, Tryz.underlying62, hb, Result.andThen, as_directE, storeVar, Value.cells, storeCells, Addr.add]
  rw [run_store Tryz.prog W ta _ _ (by rfl)]
  simp [ht, hf]

set_option maxRecDepth 100000 in
set_option maxHeartbeats 4000000 in
theorem as_hit (e : Int) (t : Addr) (old : Value) (w : World) (hg : w.cell? ⟨0, 0, none⟩ = some (.iface 124 (.agg #[.pointer (some ⟨2, 45, none⟩)]))) (ht0 : w.cell? t = some old) (hf0 : w.frozen? t = false) :
    Calls Tryz.prog 31 #[.iface 62 (.int .i64 e), .iface 79 (.pointer (some t))] w fun ev w' => ev = .returned (.bool true) ∧ w' = ((((w.alloc (.cells #[.pointer (some t)] 79)).alloc (.cells #[.pointer (some ⟨2, 79, none⟩), .pointer (some ⟨w.heap.size, 0, none⟩), .int .u64 150] 100)).alloc (.cells #[.pointer (some ⟨2, 79, none⟩), .pointer (some ⟨w.heap.size, 0, none⟩), .int .u64 150] 100)).alloc (.cells #[.int .i64 e] 62)).setCell t (.int .i64 e) := by
  have h6 := @run_callFunc_extern Tryz.prog 47 _ (fun args => ReflectliteValue.unpack (args.getD 0 (.tuple #[]))) Tryz.func47 (by kernel_rfl) (by kernel_rfl) (by kernel_rfl) (by kernel_rfl)
  have h7 := @run_callFunc_extern Tryz.prog 48 _ (ReflectliteValue.methodAny (ReflectliteValue.valueError "reflectlite.Value.Type" 0) (fun t _ _ _ => ReflectliteType.toType t)) Tryz.func48 (by kernel_rfl) (by kernel_rfl) (by kernel_rfl) (by kernel_rfl)
  have h8 := @run_callFunc_extern Tryz.prog 49 _ (ReflectliteValue.method (ReflectliteValue.valueError "reflectlite.Value.IsNil" 0) ReflectliteValue.isNil) Tryz.func49 (by kernel_rfl) (by kernel_rfl) (by kernel_rfl) (by kernel_rfl)
  have h27 := @run_callFunc_extern Tryz.prog 112 _ (ReflectliteType.abiMethod fun t => do pure (.int .u8 (← Rtype.kind t))) Tryz.func112 (by kernel_rfl) (by kernel_rfl) (by kernel_rfl) (by kernel_rfl)
  have h37 := @run_callFunc_extern Tryz.prog 122 _ (ReflectliteType.method ReflectliteType.elem) Tryz.func122 (by kernel_rfl) (by kernel_rfl) (by kernel_rfl) (by kernel_rfl)
  have h38 := @run_callFunc_extern Tryz.prog 123 _ (ReflectliteType.relation "Implements" ReflectliteType.implements_) Tryz.func123 (by kernel_rfl) (by kernel_rfl) (by kernel_rfl) (by kernel_rfl)
  have h10 := @run_callFunc_extern Tryz.prog 60 _ ReflectliteType.typeOf Tryz.func60 (by kernel_rfl) (by kernel_rfl) (by kernel_rfl) (by kernel_rfl)
  have h35 := @run_callFunc_extern Tryz.prog 120 _ (ReflectliteType.relation "AssignableTo" ReflectliteType.assignableTo) Tryz.func120 (by kernel_rfl) (by kernel_rfl) (by kernel_rfl) (by kernel_rfl)
  have h11 := @run_callFunc_extern Tryz.prog 61 _ (ReflectliteValue.method (ReflectliteValue.valueError "reflectlite.Value.Elem" 0) ReflectliteValue.elem) Tryz.func61 (by kernel_rfl) (by kernel_rfl) (by kernel_rfl) (by kernel_rfl)
  have h12 := @run_callFunc_extern Tryz.prog 62 _ ReflectliteValue.set Tryz.func62 (by kernel_rfl) (by kernel_rfl) (by kernel_rfl) (by kernel_rfl)
  have tO := as_typeOfE
  have mA := as_methodAssignableTo
  have a25 := as_assignableE
  have v25 := as_valueOfE
  have f6 := as_valueOfP
  have f7 := as_typeP
  have mK := as_methodKind
  have mE := as_methodElem
  have mI := as_methodImplements
  have k27 := as_kindP
  have k25 := as_kindE
  have e27 := as_elemP
  have i25 := as_implementsE
  have n8 := as_isNilP ⟨w.heap.size, 0, none⟩ t ((w.alloc (.cells #[.pointer (some t)] 79)).alloc (.cells #[.pointer (some ⟨2, 79, none⟩), .pointer (some ⟨w.heap.size, 0, none⟩), .int .u64 150] 100)) (by simp)
  have hlt : 0 < w.heap.size := World.block_lt_of_cell? _ _ hg
  have hg2 : ((w.alloc (.cells #[.pointer (some t)] 79)).alloc (.cells #[.pointer (some ⟨2, 79, none⟩), .pointer (some ⟨w.heap.size, 0, none⟩), .int .u64 150] 100)).cell? ⟨0, 0, none⟩ = some (.iface 124 (.agg #[.pointer (some ⟨2, 45, none⟩)])) := by
    rw [World.cell?_alloc_lt _ _ ⟨0, 0, none⟩ (by simp only [World.size_alloc]; omega), World.cell?_alloc_lt _ _ ⟨0, 0, none⟩ hlt]; exact hg
  have htl : t.block < w.heap.size := by
    rcases Nat.lt_or_ge t.block w.heap.size with h | h
    · exact h
    · simp [World.cell?, Array.getElem?_eq_none h] at ht0
  have el := as_elemVP ⟨w.heap.size, 0, none⟩ t (((w.alloc (.cells #[.pointer (some t)] 79)).alloc (.cells #[.pointer (some ⟨2, 79, none⟩), .pointer (some ⟨w.heap.size, 0, none⟩), .int .u64 150] 100)).alloc (.cells #[.pointer (some ⟨2, 79, none⟩), .pointer (some ⟨w.heap.size, 0, none⟩), .int .u64 150] 100)) (by rw [World.cell?_alloc_lt _ _ ⟨w.heap.size, 0, none⟩ (by simp; omega)]; simp)
  have st := as_setE t ⟨w.heap.size + 1 + 1 + 1, 0, none⟩ e old ((((w.alloc (.cells #[.pointer (some t)] 79)).alloc (.cells #[.pointer (some ⟨2, 79, none⟩), .pointer (some ⟨w.heap.size, 0, none⟩), .int .u64 150] 100)).alloc (.cells #[.pointer (some ⟨2, 79, none⟩), .pointer (some ⟨w.heap.size, 0, none⟩), .int .u64 150] 100)).alloc (.cells #[.int .i64 e] 62))
    (by rw [World.cell?_alloc_at _ _ _ _ (by simp)]; rfl)
    (by rw [World.cell?_alloc_lt _ _ t (by simp; omega), World.cell?_alloc_lt _ _ t (by simp; omega), World.cell?_alloc_lt _ _ t (by simp; omega), World.cell?_alloc_lt _ _ t htl]; exact ht0)
    (by rw [World.frozen?_alloc_old _ _ t (by simp; omega), World.frozen?_alloc_old _ _ t (by simp; omega), World.frozen?_alloc_old _ _ t (by simp; omega), World.frozen?_alloc_old _ _ t (Nat.ne_of_lt htl)]; exact hf0)
  go_enter Tryz.func31, Tryz.ntmps31
  go_wp2
  refine wp_loop_rounds 1 ?_
  rw [rounds_succ]
  go_wp2
  go_ret
  exact ⟨rfl, rfl⟩
end Go.Proofs.YtfjnkidblalckaaGreatDoor

/- Contracts: plain.Told, kinsame.Error. Conditions: the library's variable holds the handle of the type error. -/
namespace Go.Proofs.YtfjnkidblalckaaGreatDoor
open Go Go.RowKit

/-- The library's variable holds the handle of the type error. -/
def GlobOk (w : World) : Prop := w.cell? ⟨0, 0, none⟩ = some (.iface 124 (.agg #[.pointer (some ⟨2, 45, none⟩)]))
theorem GlobOk.below {w w' : World} (hb : Below w.heap.size w w') (h : GlobOk w) : GlobOk w' := cell_below hb h
theorem below_al {w w' : World} (h : Below w.heap.size w w') (o : Obj) : Below w.heap.size w (w'.alloc o) := h.alloc h.size o
set_option maxHeartbeats 1000000 in
theorem told_any (k : Int) (w : World) (hg : GlobOk w) : Calls Tryz.prog 18 #[errV k] w fun e w' => e = .returned (.int .i64 k) ∧ Below w.heap.size w w' := by
  by_cases hk : k = 0
  · subst hk
    rw [errV_zero rfl]
    go_enter Tryz.func18, Tryz.ntmps18
    go_wp2_with fail
    go_ret
    exact ⟨rfl, Below.refl _ _⟩
  · rw [errV_some hk]
    clear hk
    have hb0 : Below w.heap.size w (w.alloc (.cells #[.int .i64 0] 62)) := (Below.refl _ _).alloc (Nat.le_refl _) _
    have h1 := as_hit k ⟨w.heap.size, 0, none⟩ (.int .i64 0) (w.alloc (.cells #[.int .i64 0] 62)) (hg.below hb0) (by rw [World.cell?_alloc_at _ _ _ _ rfl]; rfl) (by simp)
    clear hg
    go_enter Tryz.func18, Tryz.ntmps18
    go_wp2_with fail
    refine h1.mono ?_
    clear h1
    rintro e w' ⟨rfl, rfl⟩
    go_wp2_with fail
    go_ret
    refine ⟨rfl, ?_⟩
    exact below_al (below_al (below_al (below_al (below_al (Below.refl _ _) _) _) _) _) _
theorem same_any (k n : Int) (w : World) (hg : GlobOk w) : Calls Tryz.prog 6 #[errV k, .int .i64 n] w fun e w' => e = .returned (.bool (k == n)) ∧ Below w.heap.size w w' := by
  have h1 := told_any k w hg
  generalize errV k = v at *
  clear hg
  go_enter Tryz.func6, Tryz.ntmps6
  go_wp2_with fail
  refine h1.mono ?_
  clear h1
  rintro e w' ⟨rfl, hb⟩
  go_wp2_with fail
  go_ret
  exact ⟨rfl, hb⟩
end Go.Proofs.YtfjnkidblalckaaGreatDoor

/- Contract: the law StatTells answers true. -/
namespace Go.Proofs.YtfjnkidblalckaaGreatDoor
open Go Go.RowKit


/-- Lists of ints that stand in memory. -/
def Vals (w : World) (l : List (Value × List Int)) : Prop := ∀ p ∈ l, Sl intL w p.1 p.2
theorem Vals.below {w w' : World} {l : List (Value × List Int)} (h : Vals w l) (hb : Below w.heap.size w w') : Vals w' l := fun p hp => (h p hp).below hb
theorem Vals.cons {w : World} {l : List (Value × List Int)} {v : Value} {m : List Int} (h : Vals w l) (hv : Sl intL w v m) : Vals w ((v, m) :: l) := fun p hp => by
  rcases List.mem_cons.1 hp with rfl | hp
  · exact hv
  · exact h p hp
theorem far_some {g : Grf} {id : Int} (h0 : grfE g = 0) (h : fhas g.nodes id = true) : ∃ nd, g.nodes[fpos g.nodes id]? = some nd ∧ nd.id = id := by
  obtain ⟨h1, h2⟩ := (fhas_iff (grf_ok h0).2.2.1 (id := id) (k := fpos g.nodes id)).1 ⟨h, rfl⟩
  refine ⟨_, List.getElem?_eq_getElem h1, ?_⟩
  unfold idAt at h2
  rw [List.getElem?_eq_getElem h1] at h2
  exact h2
theorem farE_parts (g : Grf) (id : Int) : (grfE g ≠ 0 → farE g id = grfE g) ∧ (grfE g = 0 → rfI g.nodes id < 0 → farE g id = 5) ∧ (grfE g = 0 → ¬ rfI g.nodes id < 0 → farE g id = 0) ∧
    (farE g id = 0 → grfE g = 0 ∧ fhas g.nodes id = true ∧ farL g id = farI g (fpos g.nodes id)) ∧ (farE g id ≠ 0 → farL g id = []) := by
  by_cases h0 : grfE g = 0
  · have hr := rfI_eq (grf_ok h0).2.2.1 id
    cases hf : fhas g.nodes id with
    | true =>
      rw [hf, if_pos rfl] at hr
      have e1 : farE g id = 0 := by unfold farE; rw [if_pos h0, if_pos hf]
      have e2 : farL g id = farI g (fpos g.nodes id) := by unfold farL; rw [if_pos h0, if_pos hf]
      exact ⟨fun h => absurd h0 h, fun _ h => by omega, fun _ _ => e1, fun _ => ⟨h0, rfl, e2⟩, fun h => absurd e1 h⟩
    | false =>
      rw [hf, if_neg (by simp)] at hr
      have e1 : farE g id = 5 := by unfold farE; rw [if_pos h0, if_neg (by rw [hf]; simp)]
      have e2 : farL g id = [] := by unfold farL; rw [if_pos h0, if_neg (by rw [hf]; simp)]
      exact ⟨fun h => absurd h0 h, fun _ _ => e1, fun _ h => by omega, fun h => by omega, fun _ => e2⟩
  · have e1 : farE g id = grfE g := by unfold farE; rw [if_neg h0]
    have e2 : farL g id = [] := by unfold farL; rw [if_neg h0]
    exact ⟨fun _ => e1, fun h => absurd h h0, fun h => absurd h h0, fun h => absurd (e1.symm.trans h) h0, fun _ => e2⟩
set_option maxRecDepth 100000 in
set_option maxHeartbeats 32000000 in
theorem statTells_any (s : Scm) (g : Grf) (id : Int) (vk vb vn vt : Value) (w : World) (hg : GlobOk w) (hs : ScmR w vk vb s) (hgr : GrfR w vn vt g) (_hid : I64 id) :
    Calls Tryz.prog 3 #[.agg #[vk, vb], .agg #[vn, vt], .int .i64 id] w fun e w' => e = .returned (.bool true) ∧ Below w.heap.size w w' := by
  obtain ⟨i0, hi, hz, hz1, hz2⟩ := info_parts int_info
  obtain ⟨A1, c1, rfl, _, _⟩ := hs.1.form
  obtain ⟨A2, c2, rfl, _, _⟩ := hs.2.form
  obtain ⟨A3, c3, rfl, _, _⟩ := hgr.1.form
  obtain ⟨A4, c4, rfl, _, _⟩ := hgr.2.form
  obtain ⟨W0, hW0⟩ : ∃ W0, W0 = (w.alloc (.cells #[.slice A1 s.kinds.length c1, .slice A2 s.bonds.length c2] 25)).alloc (.cells #[.slice A3 g.nodes.length c3, .slice A4 g.ties.length c4] 29) := ⟨_, rfl⟩
  have hb0 : Below w.heap.size w W0 := by rw [hW0]; exact ((Below.refl _ _).alloc (Nat.le_refl _) _).alloc (by simp) _
  have g0 : W0.heap[w.heap.size]? = some (.cells #[.slice A1 s.kinds.length c1, .slice A2 s.bonds.length c2] 25 (0, 0)) := by
    rw [hW0, Below.heap_alloc _ _ _ (by simp)]; exact heap_alloc_new _ _
  have g1 : W0.heap[w.heap.size + 1]? = some (.cells #[.slice A3 g.nodes.length c3, .slice A4 g.ties.length c4] 29 (0, 0)) := by
    have := heap_alloc_new (w.alloc (.cells #[.slice A1 s.kinds.length c1, .slice A2 s.bonds.length c2] 25)) (.cells #[.slice A3 g.nodes.length c3, .slice A4 g.ties.length c4] 29); rw [hW0]; simpa using this
  have hW0' := hW0.symm
  have hw0 := hb0.size
  have X0 := Lib.hid (block_cell g0 0)
  have X1 := Lib.hid (block_cell g0 1)
  have Y0 := Lib.hid (block_cell g1 0)
  have Y1 := Lib.hid (block_cell g1 1)
  have HS := Lib.hid (hs.below hb0)
  have HG := Lib.hid (hgr.below hb0)
  have HRD := Lib.hid (rready_any s g _ _ _ _ W0 (hs.below hb0) (hgr.below hb0))
  have HKI : Hid (∀ W, Below W0.heap.size W0 W → Calls Tryz.prog 5 #[.agg #[.slice A1 s.kinds.length c1, .slice A2 s.bonds.length c2], .agg #[.slice A3 g.nodes.length c3, .slice A4 g.ties.length c4]] W (RetSl intL (kindsR s g) (readySG s g) W)) := fun W h => skinds_any s g _ _ _ _ W (HS.out.below h) (HG.out.below h)
  have HBO : Hid (∀ W, Below W0.heap.size W0 W → Calls Tryz.prog 7 #[.agg #[.slice A1 s.kinds.length c1, .slice A2 s.bonds.length c2], .agg #[.slice A3 g.nodes.length c3, .slice A4 g.ties.length c4]] W (RetSl intL (bondsR s g) (readySG s g) W)) := fun W h => sbonds_any s g _ _ _ _ W (HS.out.below h) (HG.out.below h)
  have HGR : Hid (∀ W, Below W0.heap.size W0 W → Calls Tryz.prog 8 #[.agg #[.slice A3 g.nodes.length c3, .slice A4 g.ties.length c4]] W fun e w' => e = .returned (.int .i64 (grfE g)) ∧ Below W.heap.size W w') := fun W h => rgraph_any g _ _ W (HG.out.below h)
  have HRP : Hid (grfE g = 0 → ∀ W, Below W0.heap.size W0 W → Calls Tryz.prog 9 #[.agg #[.slice A3 g.nodes.length c3, .slice A4 g.ties.length c4]] W fun e w' => ∃ v, e = .returned v ∧ Sl (slL intL) w' v (partsL g) ∧ Below W.heap.size W w') := fun hq W h => by
    have := rparts2_any g _ _ W (HG.out.below h) hq
    rw [show partsI g = partsL g from by unfold partsL; rw [if_pos hq]] at this
    exact this
  have HPA : Hid (∀ W, Below W0.heap.size W0 W → Calls Tryz.prog 10 #[.agg #[.slice A3 g.nodes.length c3, .slice A4 g.ties.length c4]] W (RetSl (slL intL) (partsL g) (grfE g) W)) := fun W h => parts_any g _ _ W (HG.out.below h)
  have HFD : Hid (∀ W, Below W0.heap.size W0 W → Calls Tryz.prog 11 #[.agg #[.slice A3 g.nodes.length c3, .slice A4 g.ties.length c4], .int .i64 id] W fun e w' => e = .returned (.int .i64 (rfI g.nodes id)) ∧ Below W.heap.size W w') := fun W h => rgfind_any g _ _ id W (HG.out.below h)
  obtain ⟨pf1, pf2, pf3, pf4, pf5⟩ := farE_parts g id
  have HRF : Hid (farE g id = 0 → ∀ W, Below W0.heap.size W0 W → Calls Tryz.prog 12 #[.agg #[.slice A3 g.nodes.length c3, .slice A4 g.ties.length c4], .int .i64 id] W fun e w' => ∃ v, e = .returned v ∧ Sl intL w' v (farL g id) ∧ Below W.heap.size W w') := fun hq W h => by
    obtain ⟨h1, h2, h3⟩ := pf4 hq
    obtain ⟨nd, hn, rfl⟩ := far_some h1 h2
    rw [h3]
    refine (rfar2_any g _ _ W (HG.out.below h) h1 _ nd hn).mono ?_
    rintro e w' ⟨v, he, ho, hb⟩
    have hlt := (List.getElem?_eq_some_iff.1 hn).1
    rw [← farI_len hlt] at ho
    exact ⟨v, he, ho.ints (farI_small hlt (grf_ok h1).1), hb⟩
  have HFA : Hid (∀ W, Below W0.heap.size W0 W → Calls Tryz.prog 13 #[.agg #[.slice A3 g.nodes.length c3, .slice A4 g.ties.length c4], .int .i64 id] W (RetSl intL (farL g id) (farE g id) W)) := fun W h => farTop_any g _ _ W (HG.out.below h) id
  have PRL : Hid (readySG s g = 0 → g.nodes.length ≤ 60 ∧ g.ties.length ≤ 120 ∧ s.kinds.length ≤ 12 ∧ s.bonds.length ≤ 12) := ready_len
  have PPN : Hid (grfE g ≠ 0 → partsL g = []) := fun h => by unfold partsL; rw [if_neg h]
  have PF1 := Lib.hid pf1
  have PF2 := Lib.hid pf2
  have PF3 := Lib.hid pf3
  have PF5 := Lib.hid pf5
  clear pf1 pf2 pf3 pf4 pf5
  obtain ⟨z, hz9⟩ : ∃ z, readySG s g = z := ⟨_, rfl⟩
  rw [hz9] at HRD HKI HBO PRL
  have HZ := Lib.hid hz9
  clear hz9
  generalize grfE g = q at *
  generalize partsL g = PL at *
  generalize rfI g.nodes id = rf at *
  generalize farE g id = fe at *
  generalize farL g id = FL at *
  clear hs hgr g0 g1 hW0
  have x0 := X0.out
  have x1 := X1.out
  have y0 := Y0.out
  have y1 := Y1.out
  have hx := HRD.out
  go_enter Tryz.func3, Tryz.ntmps3
  go_wp2_with fail
  clear hW0'
  refine hx.mono ?_
  clear hx x0 x1 y0 y1 HRD
  rintro e w1 ⟨rfl, hb1⟩
  have x0 := cell_below hb1 X0.out
  have x1 := cell_below hb1 X1.out
  have y0 := cell_below hb1 Y0.out
  have y1 := cell_below hb1 Y1.out
  go_upto_block 0 with fail
  go_cut [8] (fun v wx => Sl intL wx v (kindsR s g) ∧ Below w1.heap.size w1 wx)
  case first =>
    by_cases hz0 : z = 0
    case neg =>
      have hzb : (z == 0) = false := by simpa using hz0
      have HE : Hid (kindsR s g = []) := by unfold Hid kindsR; rw [if_neg (by rw [HZ.out]; exact hz0)]
      clear hz0
      go_wp2_with fail
      go_loopw [8, 10] (fun ov i wr => i = .int .i64 0 ∧ ov = .slice none 0 0 ∧ wr = w1) (fun _ _ _ => 0)
      case atStart => exact ⟨rfl, rfl, rfl⟩
      case round =>
        obtain ⟨rfl, rfl, rfl⟩ := hrel
        by_cases hlb : 0 < s.kinds.length
        · go_wp2_with fail
          go_meet
          exact ⟨by rw [HE.out]; exact Sl.nil 0 (Nat.zero_le _) none, Below.refl _ _⟩
        · go_wp2_with fail
          go_meet
          exact ⟨by rw [HE.out]; exact Sl.nil 0 (Nat.zero_le _) none, Below.refl _ _⟩
    case pos =>
      have hzb : (z == 0) = true := by simpa using hz0
      have HE : Hid (kindsR s g = kindsL s g) := by unfold Hid kindsR; rw [if_pos (by rw [HZ.out]; exact hz0)]
      obtain ⟨l1, l2, l3, l4⟩ := PRL.out hz0
      have HW := Lib.hid hb1
      clear hz0 x0 x1 y0 y1
      go_wp2_with fail
      go_loopw [8, 10] (fun ov i wr => ∃ k : Nat, k ≤ s.kinds.length ∧ i = .int .i64 k ∧ Below (w1).heap.size (w1) wr ∧ Own wr (w1).heap.size 3 1 ov k (((kindsL s g).take k).map (Value.int .i64))) (fun _ i _ => s.kinds.length - (intOf i).toNat)
      case atStart => exact ⟨0, Nat.zero_le _, rfl, Below.refl _ _, Own.nil _ _ _ _⟩
      case round =>
        obtain ⟨k, hk, rfl, hb1r, hown⟩ := hrel
        have hWr : Below W0.heap.size W0 wr := HW.out.trans (hb1r.mono HW.out.size)
        have x0 := cell_below hWr X0.out
        have x1 := cell_below hWr X1.out
        have y0 := cell_below hWr Y0.out
        have y1 := cell_below hWr Y1.out
        by_cases hlt : k < s.kinds.length
        · obtain ⟨d, hd⟩ : ∃ d, s.kinds[k]? = some d := ⟨_, List.getElem?_eq_getElem hlt⟩
          have hlt' : (k : Int) < (s.kinds.length : Int) := by omega
          have HMS : Hid ((kindsL s g).take (k + 1) = (kindsL s g).take k ++ [(kCount g d : Int)]) := map_snoc _ hd
          have HD := Lib.hid hd
          clear hd
          go_wp2_with fail
          clear x0 x1 y0 y1
          go_loopw [11, 12] (fun n i w4 => ∃ k2 : Nat, k2 ≤ g.nodes.length ∧ i = .int .i64 k2 ∧ n = .int .i64 ((g.nodes.take k2).countP (fun x => decide (x.kind = d.name)) : Nat) ∧ Below wr.heap.size wr w4) (fun _ i _ => g.nodes.length - (intOf i).toNat)
          case atStart => exact ⟨0, Nat.zero_le _, rfl, by simp, Below.refl _ _⟩
          case round =>
            obtain ⟨k2, hk3, rfl, rfl, hb4⟩ := hrel
            have hcl : (g.nodes.take k2).countP (fun x => decide (x.kind = d.name)) ≤ k2 := Nat.le_trans List.countP_le_length (by rw [List.length_take]; omega)
            have hba := hWr.trans (hb4.mono hWr.size)
            have x0 := cell_below hba X0.out
            have x1 := cell_below hba X1.out
            have y0 := cell_below hba Y0.out
            have y1 := cell_below hba Y1.out
            by_cases hk4 : k2 < g.nodes.length
            · obtain ⟨x, hx⟩ : ∃ d, g.nodes[k2]? = some d := ⟨_, List.getElem?_eq_getElem hk4⟩
              have hk4' : (k2 : Int) < (g.nodes.length : Int) := by omega
              obtain ⟨gb, o, hA, u, _, _, hpr, q0, q1, q2⟩ := nod_at (HG.out.below hba).1 hx
              subst hA
              obtain ⟨gk, ok, hA, us, xs, _, hu1, hu2, p0, p1, p2⟩ := knd_at (HS.out.below hba).1 HD.out
              subst hA
              have HST := Lib.hid (count_snoc (fun x => decide (x.kind = d.name)) hx)
              have hkb : (x.kind.toList == d.name.toList) = decide (x.kind = d.name) := bytes_beq _ _
              clear hx
              generalize (g.nodes.take k2).countP (fun x => decide (x.kind = d.name)) = cn at *
              by_cases hq : x.kind = d.name
              · rw [decide_eq_true hq] at hkb
                have hkc : x.kind.toList = d.name.toList := by rw [hq]
                have HN : Hid ((g.nodes.take (k2 + 1)).countP (fun x => decide (x.kind = d.name)) = cn + 1) := by unfold Hid; rw [HST.out, decide_eq_true hq]; rfl
                have hw1 : IntKind.i64.wrap ((cn : Int) + 1) = (cn : Int) + 1 := IntWalk.i64_in _ (by omega)
                clear HST hq
                go_wp2_with fail
                go_quiet (fail)
                go_wp2_with fail
                go_roundw
                case rel => exact ⟨k2 + 1, by omega, by go_num, by rw [HN.out]; go_num, below_drewN hb4 _⟩
                case measure => simp [intOf]; omega
              · rw [decide_eq_false hq] at hkb
                have hkc : ¬ x.kind.toList = d.name.toList := by rw [bytes_eq]; exact hq
                have HN : Hid ((g.nodes.take (k2 + 1)).countP (fun x => decide (x.kind = d.name)) = cn) := by unfold Hid; rw [HST.out, decide_eq_false hq]; rfl
                clear HST hq
                go_wp2_with fail
                go_quiet (fail)
                go_wp2_with fail
                go_roundw
                case rel => exact ⟨k2 + 1, by omega, by go_num, by rw [HN.out], below_drewN hb4 _⟩
                case measure => simp [intOf]; omega
            · obtain rfl : k2 = g.nodes.length := by omega
              rw [List.take_length]
              have HSN : Hid ((kindsL s g).take (k + 1) = (kindsL s g).take k ++ [((g.nodes.countP (fun x => decide (x.kind = d.name)) : Nat) : Int)]) := HMS
              have hcl : g.nodes.countP (fun x => decide (x.kind = d.name)) ≤ g.nodes.length := List.countP_le_length
              generalize g.nodes.countP (fun x => decide (x.kind = d.name)) = cn at *
              have hb1x := hb1r.trans (hb4.mono hb1r.size)
              have hpo := hown.below hb4
              obtain ⟨Ap, cp, rfl, hpc, hpm⟩ := hpo.form
              have hpo2 := hpo.alloc (.cells #[.int .i64 cn] 3)
              have hm1 := hb1x.size
              clear hb4 HMS
              go_wp2_with (first
                | (at_builtin; refine wpList_append_q _ rfl (.tmp 67) (.tmp 69) _ rfl (w1).heap.size 3 i0 (.int .i64 0) 1 8 Tryz.underlying31 hi hz hz1 hz2 rfl (by decide) (.slice Ap k cp) k (((kindsL s g).take k).map (Value.int .i64)) rfl hpo2 (some ⟨wr.heap.size, 0, none⟩) 1 1 [.int .i64 cn] rfl rfl (fun _ => ⟨_, rfl, cell_one_new wr (.int .i64 cn) 3⟩) (by simp [Value.oneCell']) (by unfold maxLen; omega) (by omega) (by simp; omega) ?_; intro v7 w7 hown7 hg7 hat7))
              have hb7 : Below (w1).heap.size (w1) w7 := (hb1x.alloc hm1 _).grown hg7 (by simp; omega) (fun kk hkk => (hpo.lt kk hkk).1)
              have ho7 : Own w7 (w1).heap.size 3 1 v7 (k + 1) (((kindsL s g).take (k + 1)).map (Value.int .i64)) := by rw [HSN.out, List.map_append]; exact hown7
              clear hg7 hat7 hown7
              go_roundw
              case rel => exact ⟨k + 1, by omega, by go_num, hb7, ho7⟩
              case measure => simp [intOf]; omega
        · obtain rfl : k = s.kinds.length := by omega
          have hle : (kindsL s g).length = s.kinds.length := by simp [kindsL]
          have HX : Hid (∀ v, Own wr (w1).heap.size 3 1 v s.kinds.length (((kindsL s g).take s.kinds.length).map (Value.int .i64)) → Sl intL wr v (kindsR s g)) := by
            intro v hown
            rw [HE.out]
            refine Own.ints (fun x hx => ?_) (by rw [hle]; rw [List.take_of_length_le (by rw [hle]; exact Nat.le_refl _)] at hown; exact hown)
            obtain ⟨d, _, rfl⟩ := List.mem_map.1 hx
            have : kCount g d ≤ 120 := Nat.le_trans List.countP_le_length (by omega)
            unfold I64; omega
          have HOW := Lib.hid hown
          clear hown
          go_wp2_with fail
          go_meet
          exact ⟨HX.out _ HOW.out, hb1r⟩
  case rest =>
  obtain ⟨v8, rfl⟩ : ∃ x : Value, x = u8 := ⟨_, rfl⟩
  obtain ⟨w2, rfl⟩ : ∃ x : World, x = wc := ⟨_, rfl⟩
  obtain ⟨hv8, hb12⟩ := hcut
  have hb2 := hb1.trans (hb12.mono hb1.size)
  have HV8 := Lib.hid hv8
  clear hv8 hb12 x0 x1 y0 y1
  have x0 := cell_below hb2 X0.out
  have x1 := cell_below hb2 X1.out
  have y0 := cell_below hb2 Y0.out
  have y1 := cell_below hb2 Y1.out
  go_upto_block 4 with fail
  go_cut [9] (fun v wx => Sl intL wx v (bondsR s g) ∧ Below w2.heap.size w2 wx)
  case first =>
    by_cases hz0 : z = 0
    case neg =>
      have hzb : (z == 0) = false := by simpa using hz0
      have HE : Hid (bondsR s g = []) := by unfold Hid bondsR; rw [if_neg (by rw [HZ.out]; exact hz0)]
      clear hz0
      go_wp2_with fail
      go_loopw [9, 13] (fun ov i wr => i = .int .i64 0 ∧ ov = .slice none 0 0 ∧ wr = w2) (fun _ _ _ => 0)
      case atStart => exact ⟨rfl, rfl, rfl⟩
      case round =>
        obtain ⟨rfl, rfl, rfl⟩ := hrel
        by_cases hlb : 0 < s.bonds.length
        · go_wp2_with fail
          go_meet
          exact ⟨by rw [HE.out]; exact Sl.nil 0 (Nat.zero_le _) none, Below.refl _ _⟩
        · go_wp2_with fail
          go_meet
          exact ⟨by rw [HE.out]; exact Sl.nil 0 (Nat.zero_le _) none, Below.refl _ _⟩
    case pos =>
      have hzb : (z == 0) = true := by simpa using hz0
      have HE : Hid (bondsR s g = bondsL s g) := by unfold Hid bondsR; rw [if_pos (by rw [HZ.out]; exact hz0)]
      obtain ⟨l1, l2, l3, l4⟩ := PRL.out hz0
      have HW := Lib.hid hb2
      clear hz0 x0 x1 y0 y1
      go_wp2_with fail
      go_loopw [9, 13] (fun ov i wr => ∃ k : Nat, k ≤ s.bonds.length ∧ i = .int .i64 k ∧ Below (w2).heap.size (w2) wr ∧ Own wr (w2).heap.size 3 1 ov k (((bondsL s g).take k).map (Value.int .i64))) (fun _ i _ => s.bonds.length - (intOf i).toNat)
      case atStart => exact ⟨0, Nat.zero_le _, rfl, Below.refl _ _, Own.nil _ _ _ _⟩
      case round =>
        obtain ⟨k, hk, rfl, hb1r, hown⟩ := hrel
        have hWr : Below W0.heap.size W0 wr := HW.out.trans (hb1r.mono HW.out.size)
        have x0 := cell_below hWr X0.out
        have x1 := cell_below hWr X1.out
        have y0 := cell_below hWr Y0.out
        have y1 := cell_below hWr Y1.out
        by_cases hlt : k < s.bonds.length
        · obtain ⟨d, hd⟩ : ∃ d, s.bonds[k]? = some d := ⟨_, List.getElem?_eq_getElem hlt⟩
          have hlt' : (k : Int) < (s.bonds.length : Int) := by omega
          have HMS : Hid ((bondsL s g).take (k + 1) = (bondsL s g).take k ++ [(bCount g d : Int)]) := map_snoc _ hd
          have HD := Lib.hid hd
          clear hd
          go_wp2_with fail
          clear x0 x1 y0 y1
          go_loopw [14, 15] (fun n i w4 => ∃ k2 : Nat, k2 ≤ g.ties.length ∧ i = .int .i64 k2 ∧ n = .int .i64 ((g.ties.take k2).countP (fun x => decide (x.bond = d.name)) : Nat) ∧ Below wr.heap.size wr w4) (fun _ i _ => g.ties.length - (intOf i).toNat)
          case atStart => exact ⟨0, Nat.zero_le _, rfl, by simp, Below.refl _ _⟩
          case round =>
            obtain ⟨k2, hk3, rfl, rfl, hb4⟩ := hrel
            have hcl : (g.ties.take k2).countP (fun x => decide (x.bond = d.name)) ≤ k2 := Nat.le_trans List.countP_le_length (by rw [List.length_take]; omega)
            have hba := hWr.trans (hb4.mono hWr.size)
            have x0 := cell_below hba X0.out
            have x1 := cell_below hba X1.out
            have y0 := cell_below hba Y0.out
            have y1 := cell_below hba Y1.out
            by_cases hk4 : k2 < g.ties.length
            · obtain ⟨x, hx⟩ : ∃ d, g.ties[k2]? = some d := ⟨_, List.getElem?_eq_getElem hk4⟩
              have hk4' : (k2 : Int) < (g.ties.length : Int) := by omega
              obtain ⟨gb, o, hA, _, q0, q1, q2⟩ := tie_at (HG.out.below hba).2 hx
              subst hA
              obtain ⟨gk, ok, hA, _, p0, p1, p2, p3, p4⟩ := bnd_at (HS.out.below hba).2 HD.out
              subst hA
              have HST := Lib.hid (count_snoc (fun x => decide (x.bond = d.name)) hx)
              have hkb : (x.bond.toList == d.name.toList) = decide (x.bond = d.name) := bytes_beq _ _
              clear hx
              generalize (g.ties.take k2).countP (fun x => decide (x.bond = d.name)) = cn at *
              by_cases hq : x.bond = d.name
              · rw [decide_eq_true hq] at hkb
                have hkc : x.bond.toList = d.name.toList := by rw [hq]
                have HN : Hid ((g.ties.take (k2 + 1)).countP (fun x => decide (x.bond = d.name)) = cn + 1) := by unfold Hid; rw [HST.out, decide_eq_true hq]; rfl
                have hw1 : IntKind.i64.wrap ((cn : Int) + 1) = (cn : Int) + 1 := IntWalk.i64_in _ (by omega)
                clear HST hq
                go_wp2_with fail
                go_quiet (fail)
                go_wp2_with fail
                go_roundw
                case rel => exact ⟨k2 + 1, by omega, by go_num, by rw [HN.out]; go_num, below_drewN hb4 _⟩
                case measure => simp [intOf]; omega
              · rw [decide_eq_false hq] at hkb
                have hkc : ¬ x.bond.toList = d.name.toList := by rw [bytes_eq]; exact hq
                have HN : Hid ((g.ties.take (k2 + 1)).countP (fun x => decide (x.bond = d.name)) = cn) := by unfold Hid; rw [HST.out, decide_eq_false hq]; rfl
                clear HST hq
                go_wp2_with fail
                go_quiet (fail)
                go_wp2_with fail
                go_roundw
                case rel => exact ⟨k2 + 1, by omega, by go_num, by rw [HN.out], below_drewN hb4 _⟩
                case measure => simp [intOf]; omega
            · obtain rfl : k2 = g.ties.length := by omega
              rw [List.take_length]
              have HSN : Hid ((bondsL s g).take (k + 1) = (bondsL s g).take k ++ [((g.ties.countP (fun x => decide (x.bond = d.name)) : Nat) : Int)]) := HMS
              have hcl : g.ties.countP (fun x => decide (x.bond = d.name)) ≤ g.ties.length := List.countP_le_length
              generalize g.ties.countP (fun x => decide (x.bond = d.name)) = cn at *
              have hb1x := hb1r.trans (hb4.mono hb1r.size)
              have hpo := hown.below hb4
              obtain ⟨Ap, cp, rfl, hpc, hpm⟩ := hpo.form
              have hpo2 := hpo.alloc (.cells #[.int .i64 cn] 3)
              have hm1 := hb1x.size
              clear hb4 HMS
              go_wp2_with (first
                | (at_builtin; refine wpList_append_q _ rfl (.tmp 104) (.tmp 106) _ rfl (w2).heap.size 3 i0 (.int .i64 0) 1 8 Tryz.underlying31 hi hz hz1 hz2 rfl (by decide) (.slice Ap k cp) k (((bondsL s g).take k).map (Value.int .i64)) rfl hpo2 (some ⟨wr.heap.size, 0, none⟩) 1 1 [.int .i64 cn] rfl rfl (fun _ => ⟨_, rfl, cell_one_new wr (.int .i64 cn) 3⟩) (by simp [Value.oneCell']) (by unfold maxLen; omega) (by omega) (by simp; omega) ?_; intro v7 w7 hown7 hg7 hat7))
              have hb7 : Below (w2).heap.size (w2) w7 := (hb1x.alloc hm1 _).grown hg7 (by simp; omega) (fun kk hkk => (hpo.lt kk hkk).1)
              have ho7 : Own w7 (w2).heap.size 3 1 v7 (k + 1) (((bondsL s g).take (k + 1)).map (Value.int .i64)) := by rw [HSN.out, List.map_append]; exact hown7
              clear hg7 hat7 hown7
              go_roundw
              case rel => exact ⟨k + 1, by omega, by go_num, hb7, ho7⟩
              case measure => simp [intOf]; omega
        · obtain rfl : k = s.bonds.length := by omega
          have hle : (bondsL s g).length = s.bonds.length := by simp [bondsL]
          have HX : Hid (∀ v, Own wr (w2).heap.size 3 1 v s.bonds.length (((bondsL s g).take s.bonds.length).map (Value.int .i64)) → Sl intL wr v (bondsR s g)) := by
            intro v hown
            rw [HE.out]
            refine Own.ints (fun x hx => ?_) (by rw [hle]; rw [List.take_of_length_le (by rw [hle]; exact Nat.le_refl _)] at hown; exact hown)
            obtain ⟨d, _, rfl⟩ := List.mem_map.1 hx
            have : bCount g d ≤ 120 := Nat.le_trans List.countP_le_length (by omega)
            unfold I64; omega
          have HOW := Lib.hid hown
          clear hown
          go_wp2_with fail
          go_meet
          exact ⟨HX.out _ HOW.out, hb1r⟩
  case rest =>
  obtain ⟨v9, rfl⟩ : ∃ x : Value, x = u9 := ⟨_, rfl⟩
  obtain ⟨w3, rfl⟩ : ∃ x : World, x = wc := ⟨_, rfl⟩
  obtain ⟨hv9, hb23⟩ := hcut
  have hb3 := hb2.trans (hb23.mono hb2.size)
  have HV : Hid (Vals w3 [(v9, bondsR s g), (v8, kindsR s g)]) := Vals.cons (Vals.cons (l := []) (fun p hp => by simp at hp) (HV8.out.below hb23)) hv9
  clear hv9 hb23 HV8 x0 x1 y0 y1 hb1 hb2 PRL HZ hi hz hz1 hz2
  generalize kindsR s g = KR at *
  generalize bondsR s g = BR at *
  -- stat.Kinds
  have x0 := cell_below hb3 X0.out
  have x1 := cell_below hb3 X1.out
  have y0 := cell_below hb3 Y0.out
  have y1 := cell_below hb3 Y1.out
  have hx := HKI.out w3 hb3
  go_wp2_with fail
  refine hx.mono ?_
  clear hx HKI x0 x1 y0 y1
  rintro e w4 ⟨v16, rfl, hv, hq4⟩
  have hb4 := hb3.trans (hq4.mono hb3.size)
  have HV := Lib.hid ((HV.out.below hq4).cons hv)
  clear hv hq4 hb3
  -- the error is the one told: z: the number; w4: the world; hb4: it is above W0; w5: the world then; hb5: that it is above W0
  have hx := same_any z z w4 (hg.below (hb0.trans ((hb4).mono hw0)))
  rw [beq_self_eq_true] at hx
  go_wp2_with fail
  refine hx.mono ?_
  clear hx
  rintro e w5 ⟨rfl, hqe⟩
  have hb5 := (hb4).trans (hqe.mono (hb4).size)
  have HV := Lib.hid (HV.out.below hqe)
  clear hqe hb4
  -- stat.Bonds
  have x0 := cell_below hb5 X0.out
  have x1 := cell_below hb5 X1.out
  have y0 := cell_below hb5 Y0.out
  have y1 := cell_below hb5 Y1.out
  have hx := HBO.out w5 hb5
  go_wp2_with fail
  refine hx.mono ?_
  clear hx HBO x0 x1 y0 y1
  rintro e w6 ⟨v19, rfl, hv, hq4⟩
  have hb6 := hb5.trans (hq4.mono hb5.size)
  have HV := Lib.hid ((HV.out.below hq4).cons hv)
  clear hv hq4 hb5
  -- the error is the one told: z: the number; w6: the world; hb6: it is above W0; w7: the world then; hb7: that it is above W0
  have hx := same_any z z w6 (hg.below (hb0.trans ((hb6).mono hw0)))
  rw [beq_self_eq_true] at hx
  go_wp2_with fail
  refine hx.mono ?_
  clear hx
  rintro e w7 ⟨rfl, hqe⟩
  have hb7 := (hb6).trans (hqe.mono (hb6).size)
  have HV := Lib.hid (HV.out.below hqe)
  clear hqe hb6
  -- kinref1.Graph
  have y0 := cell_below hb7 Y0.out
  have y1 := cell_below hb7 Y1.out
  have hx := HGR.out w7 hb7
  go_wp2_with fail
  refine hx.mono ?_
  clear hx HGR y0 y1
  rintro e w8 ⟨rfl, hq4⟩
  have hb8 := hb7.trans (hq4.mono hb7.size)
  have HV := Lib.hid (HV.out.below hq4)
  clear hq4 hb7
  have y0 := cell_below hb8 Y0.out
  have y1 := cell_below hb8 Y1.out
  go_upto_if 129 with fail
  go_cut [21] (fun v wx => Sl (slL intL) wx v PL ∧ Below w8.heap.size w8 wx)
  case first =>
    by_cases hq0 : q = 0
    · have hqb : (q == 0) = true := by simpa using hq0
      have hx := HRP.out hq0 w8 hb8
      clear hq0
      go_wp2_with fail
      refine hx.mono ?_
      clear hx
      rintro e w9 ⟨v, rfl, hv, hb9⟩
      go_wp2_with fail
      go_meet
      exact ⟨hv, hb9⟩
    · have hqb : (q == 0) = false := by simpa using hq0
      have HN := Lib.hid (PPN.out hq0)
      clear hq0
      go_wp2_with fail
      go_meet
      exact ⟨by rw [HN.out]; exact Sl.nil 0 (Nat.zero_le _) none, Below.refl _ _⟩
  case rest =>
  obtain ⟨v21, rfl⟩ : ∃ x : Value, x = u21 := ⟨_, rfl⟩
  obtain ⟨w9, rfl⟩ : ∃ x : World, x = wc := ⟨_, rfl⟩
  obtain ⟨hv21, hq4⟩ := hcut
  have hb9 := hb8.trans (hq4.mono hb8.size)
  have HV := Lib.hid (HV.out.below hq4)
  have HL1 := Lib.hid hv21
  clear hv21 hq4 hb8 HRP PPN y0 y1
  -- stat.Parts
  have y0 := cell_below hb9 Y0.out
  have y1 := cell_below hb9 Y1.out
  have hx := HPA.out w9 hb9
  go_wp2_with fail
  refine hx.mono ?_
  clear hx HPA y0 y1
  rintro e w10 ⟨v22, rfl, hv, hq4⟩
  have hb10 := hb9.trans (hq4.mono hb9.size)
  have HV := Lib.hid (HV.out.below hq4)
  have HL1 := Lib.hid (HL1.out.below hq4)
  have HL2 := Lib.hid hv
  clear hv hq4 hb9
  -- the error is the one told: q: the number; w10: the world; hb10: it is above W0; w11: the world then; hb11: that it is above W0
  have hx := same_any q q w10 (hg.below (hb0.trans ((hb10).mono hw0)))
  rw [beq_self_eq_true] at hx
  go_wp2_with fail
  refine hx.mono ?_
  clear hx
  rintro e w11 ⟨rfl, hqe⟩
  have hb11 := (hb10).trans (hqe.mono (hb10).size)
  have HV := Lib.hid (HV.out.below hqe)
  have HL1 := Lib.hid (HL1.out.below hqe)
  have HL2 := Lib.hid (HL2.out.below hqe)
  clear hqe hb10
  -- kinref1.Find
  have y0 := cell_below hb11 Y0.out
  have y1 := cell_below hb11 Y1.out
  go_upto_region 33 with fail
  go_cut [147] (fun v wx => v = .bool (decide (q = 0) && decide (rf < 0)) ∧ Below w11.heap.size w11 wx)
  case first =>
    by_cases hq0 : q = 0
    · have hqb : (q == 0) = true := by simpa using hq0
      have hx := HFD.out w11 hb11
      have HN := Lib.hid (decide_eq_true hq0)
      clear hq0
      go_wp2_with fail
      refine hx.mono ?_
      clear hx
      rintro e w12 ⟨rfl, hq4⟩
      go_wp2_with fail
      go_meet
      exact ⟨by rw [HN.out]; rfl, hq4⟩
    · have hqb : (q == 0) = false := by simpa using hq0
      have HN := Lib.hid (decide_eq_false hq0)
      clear hq0
      go_wp2_with fail
      go_meet
      exact ⟨by rw [HN.out]; rfl, Below.refl _ _⟩
  case rest =>
  obtain ⟨v147, rfl⟩ : ∃ x : Value, x = u147 := ⟨_, rfl⟩
  obtain ⟨w12, rfl⟩ : ∃ x : World, x = wc := ⟨_, rfl⟩
  obtain ⟨rfl, hq4⟩ := hcut
  have hb12 := hb11.trans (hq4.mono hb11.size)
  have HV := Lib.hid (HV.out.below hq4)
  have HL1 := Lib.hid (HL1.out.below hq4)
  have HL2 := Lib.hid (HL2.out.below hq4)
  have HT : Hid ((decide (q = 0) && decide (rf < 0)) = true → fe = 5) := fun h => by
    rw [Bool.and_eq_true, decide_eq_true_eq, decide_eq_true_eq] at h
    exact PF2.out h.1 h.2
  have HF : Hid ((decide (q = 0) && decide (rf < 0)) = false → fe = q) := fun h => by
    by_cases h0 : q = 0
    · rw [decide_eq_true h0, Bool.true_and, decide_eq_false_iff_not] at h
      rw [PF3.out h0 (by omega), h0]
    · exact PF1.out h0
  clear hq4 hb11 HFD y0 y1 PF1 PF2 PF3
  generalize (decide (q = 0) && decide (rf < 0)) = tb at *
  go_upto_if 147 with fail
  go_cut [7] (fun v wx => v = .int .i64 fe ∧ wx = w12)
  case first =>
    cases tb with
    | true =>
      have HN := Lib.hid (HT.out rfl)
      go_wp2_with fail
      go_meet
      exact ⟨by rw [HN.out], rfl⟩
    | false =>
      have HN := Lib.hid (HF.out rfl)
      go_wp2_with fail
      go_meet
      exact ⟨by rw [HN.out], rfl⟩
  case rest =>
  obtain ⟨rfl, rfl⟩ := hcut
  obtain ⟨w12, rfl⟩ : ∃ x : World, x = wc := ⟨_, rfl⟩
  clear HT HF
  have y0 := cell_below hb12 Y0.out
  have y1 := cell_below hb12 Y1.out
  go_upto_if 149 with fail
  go_cut [24] (fun v wx => Sl intL wx v FL ∧ Below w12.heap.size w12 wx)
  case first =>
    by_cases hq0 : fe = 0
    · have hqb : (fe == 0) = true := by simpa using hq0
      have hx := HRF.out hq0 w12 hb12
      clear hq0
      go_wp2_with fail
      refine hx.mono ?_
      clear hx
      rintro e w9 ⟨v, rfl, hv, hb9⟩
      go_wp2_with fail
      go_meet
      exact ⟨hv, hb9⟩
    · have hqb : (fe == 0) = false := by simpa using hq0
      have HN := Lib.hid (PF5.out hq0)
      clear hq0
      go_wp2_with fail
      go_meet
      exact ⟨by rw [HN.out]; exact Sl.nil 0 (Nat.zero_le _) none, Below.refl _ _⟩
  case rest =>
  obtain ⟨v24, rfl⟩ : ∃ x : Value, x = u24 := ⟨_, rfl⟩
  obtain ⟨w13, rfl⟩ : ∃ x : World, x = wc := ⟨_, rfl⟩
  obtain ⟨hv24, hq4⟩ := hcut
  have hb13 := hb12.trans (hq4.mono hb12.size)
  have HV := Lib.hid ((HV.out.below hq4).cons hv24)
  have HL1 := Lib.hid (HL1.out.below hq4)
  have HL2 := Lib.hid (HL2.out.below hq4)
  clear hv24 hq4 hb12 HRF PF5 y0 y1
  -- stat.Far
  have y0 := cell_below hb13 Y0.out
  have y1 := cell_below hb13 Y1.out
  have hx := HFA.out w13 hb13
  go_wp2_with fail
  refine hx.mono ?_
  clear hx HFA y0 y1
  rintro e w14 ⟨v25, rfl, hv, hq4⟩
  have hb14 := hb13.trans (hq4.mono hb13.size)
  have HV := Lib.hid ((HV.out.below hq4).cons hv)
  have HL1 := Lib.hid (HL1.out.below hq4)
  have HL2 := Lib.hid (HL2.out.below hq4)
  clear hv hq4 hb13
  -- the error is the one told: fe: the number; w14: the world; hb14: it is above W0; w15: the world then; hb15: that it is above W0
  have hx := same_any fe fe w14 (hg.below (hb0.trans ((hb14).mono hw0)))
  rw [beq_self_eq_true] at hx
  go_wp2_with fail
  refine hx.mono ?_
  clear hx
  rintro e w15 ⟨rfl, hqe⟩
  have hb15 := (hb14).trans (hqe.mono (hb14).size)
  have HV := Lib.hid (HV.out.below hqe)
  have HL1 := Lib.hid (HL1.out.below hqe)
  have HL2 := Lib.hid (HL2.out.below hqe)
  clear hqe hb14
  -- the lists
  have hx := ints_any KR KR v16 v8 w15 (HV.out (v16, KR) (by simp)) (HV.out (v8, KR) (by simp))
  rw [decide_eq_true rfl] at hx
  go_wp2_with fail
  refine hx.mono ?_
  clear hx
  rintro e w16 ⟨rfl, hqe⟩
  have hb16 := (hb15).trans (hqe.mono (hb15).size)
  have HV := Lib.hid (HV.out.below hqe)
  have HL1 := Lib.hid (HL1.out.below hqe)
  have HL2 := Lib.hid (HL2.out.below hqe)
  clear hqe hb15
  have hx := ints_any BR BR v19 v9 w16 (HV.out (v19, BR) (by simp)) (HV.out (v9, BR) (by simp))
  rw [decide_eq_true rfl] at hx
  go_wp2_with fail
  refine hx.mono ?_
  clear hx
  rintro e w17 ⟨rfl, hqe⟩
  have hb17 := (hb16).trans (hqe.mono (hb16).size)
  have HV := Lib.hid (HV.out.below hqe)
  have HL1 := Lib.hid (HL1.out.below hqe)
  have HL2 := Lib.hid (HL2.out.below hqe)
  clear hqe hb16
  have hx := lists_any PL PL _ _ w17 HL2.out HL1.out
  rw [decide_eq_true rfl] at hx
  go_wp2_with fail
  refine hx.mono ?_
  clear hx
  rintro e w18 ⟨rfl, hqe⟩
  have hb18 := hb17.trans (hqe.mono hb17.size)
  have HV := Lib.hid (HV.out.below hqe)
  clear hqe hb17
  have hx := ints_any FL FL v25 v24 w18 (HV.out (v25, FL) (by simp)) (HV.out (v24, FL) (by simp))
  rw [decide_eq_true rfl] at hx
  go_wp2_with fail
  refine hx.mono ?_
  clear hx
  rintro e w19 ⟨rfl, hqe⟩
  have hb19 := (hb18).trans (hqe.mono (hb18).size)
  have HV := Lib.hid (HV.out.below hqe)
  have hbX := hb0.trans (hb19.mono hw0)
  go_wp2_with fail
  go_ret
  exact ⟨rfl, hbX⟩
end Go.Proofs.YtfjnkidblalckaaGreatDoor
