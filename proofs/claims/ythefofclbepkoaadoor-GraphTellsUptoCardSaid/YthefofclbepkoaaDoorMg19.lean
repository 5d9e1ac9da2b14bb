/- Parts: EndB, As, Told, GNext. -/
import Derived.Test.YthefofclbepkoaaDoorMg11
import Derived.Test.YthefofclbepkoaaDoorMg01
import Derived.Test.YthefofclbepkoaaDoorRows
import Derived.WalkKit
import Derived.LaidEql
import Derived.Stop.Asserts
import Derived.RowKitTokens
import Derived.Test.YthefofclbepkoaaDoorMg04
/- Contracts: graph.ends, graph.Out, graph.In. -/
namespace Go.Proofs.YthefofclbepkoaaDoor
open Go Go.RowKit

def endsR (g : Grf) (id : Int) (bond : ByteArray) (back : Bool) : List Int := if nodeE g id = 0 then endsS g id bond back else []
/-- Ends, and an error. -/
def RetE (l : List Int) (err : Int) (w : World) (e : Ending) (w' : World) : Prop := ∃ u, e = .returned (.tuple #[u, errV err]) ∧ Sl intL w' u l ∧ Below w.heap.size w w'
theorem nodeE_grf {g : Grf} {id : Int} (h : nodeE g id = 0) : grfE g = 0 := by
  unfold nodeE at h
  split at h
  · assumption
  · rename_i h1; exact absurd h h1
set_option maxRecDepth 100000 in
set_option maxHeartbeats 8000000 in
theorem ends2_any (g : Grf) (id : Int) (bond : ByteArray) (back : Bool) (vn vt : Value) (w : World) (hG : GrfR w vn vt g) :
    Calls Tryd.prog 64 #[.agg #[vn, vt], .int .i64 id, .string bond, .bool back] w (RetE (endsR g id bond back) (nodeE g id) w) := by
  obtain ⟨An, cn, rfl, _, _⟩ := hG.1.form
  obtain ⟨At, ct, rfl, _, _⟩ := hG.2.form
  have hb0 : Below w.heap.size w (w.alloc (.cells #[.slice An g.nodes.length cn, .slice At g.ties.length ct] 47)) := (Below.refl _ _).alloc (Nat.le_refl _) _
  obtain ⟨x0, x1⟩ := cell_box2 w (.slice An g.nodes.length cn) (.slice At g.ties.length ct) 47
  generalize hW0 : w.alloc (.cells #[.slice An g.nodes.length cn, .slice At g.ties.length ct] 47) = W0 at *
  have HG := Lib.hid (hG.below hb0)
  have hw0 := hb0.size
  have hnd := gnode_any g id _ _ W0 (hG.below hb0)
  obtain ⟨z, hz⟩ : ∃ z, z = nodeE g id := ⟨_, rfl⟩
  have HZ := Lib.hid hz
  rw [← hz] at hnd
  have HR : Hid (endsR g id bond back = if z = 0 then endsS g id bond back else []) := by unfold Hid; rw [hz]; rfl
  rw [← hz]
  generalize nodeR g id = nd at *
  clear hG hz
  go_enter Tryd.func64, Tryd.ntmps64
  go_wp2_with fail
  clear hW0
  refine hnd.mono ?_
  clear hnd
  rintro e w1 ⟨u, rfl, hu, hb1⟩
  obtain ⟨Au, cu, rfl, _, _⟩ := hu.form
  have y0 := cell_below hb1 x0
  have y1 := cell_below hb1 x1
  have hB1 := hb0.trans (hb1.mono hw0)
  have hs1 := hB1.size
  have hax : Below w1.heap.size w1 (w1.alloc (.cells #[.int .i64 nd.id, .string nd.kind, .slice Au nd.props.length cu] 56)) := (Below.refl _ _).alloc (Nat.le_refl _) _
  have z0 := cell_below hax y0
  have z1 := cell_below hax y1
  have hB2 := hB1.trans (hax.mono hs1)
  by_cases h0 : z = 0
  · rw [errV_zero h0]
    have HR2 : Hid (endsR g id bond back = endsS g id bond back ∧ errV z = .nilIface) := ⟨by rw [HR.out, if_pos h0], errV_zero h0⟩
    have hok := grf_ok (nodeE_grf (HZ.out.symm.trans h0))
    have hes := ends_any g id bond back _ _ _ (HG.out.below (hb1.trans (hax.mono hb1.size))) (by omega)
    clear h0 hok
    go_wp2_with fail
    refine hes.mono ?_
    clear hes
    rintro e w2 ⟨v, rfl, hov, hvi, hb2⟩
    have hB3 := hB2.trans (hb2.mono hB2.size)
    have HV := Lib.hid (hov.ints hvi)
    clear hov hvi
    go_wp2_with fail
    go_ret2
    exact ⟨_, by rw [HR2.out.2]; rfl, by rw [HR2.out.1]; exact HV.out, hB3⟩
  · rw [errV_some h0]
    have HR2 : Hid (endsR g id bond back = [] ∧ errV z = .iface 83 (.int .i64 z)) := ⟨by rw [HR.out, if_neg h0], errV_some h0⟩
    clear h0
    go_wp2_with fail
    go_ret2
    exact ⟨_, by rw [HR2.out.2]; rfl, by rw [HR2.out.1]; exact Sl.nil 0 (Nat.zero_le _) none, hB2⟩
set_option maxRecDepth 100000 in
set_option maxHeartbeats 8000000 in
theorem gout_any (g : Grf) (id : Int) (bond : ByteArray) (vn vt : Value) (w : World) (hG : GrfR w vn vt g) :
    Calls Tryd.prog 23 #[.agg #[vn, vt], .int .i64 id, .string bond] w (RetE (endsR g id bond false) (nodeE g id) w) := by
  obtain ⟨An, cn, rfl, _, _⟩ := hG.1.form
  obtain ⟨At, ct, rfl, _, _⟩ := hG.2.form
  have hb0 : Below w.heap.size w (w.alloc (.cells #[.slice An g.nodes.length cn, .slice At g.ties.length ct] 47)) := (Below.refl _ _).alloc (Nat.le_refl _) _
  obtain ⟨x0, x1⟩ := cell_box2 w (.slice An g.nodes.length cn) (.slice At g.ties.length ct) 47
  have hes := ends2_any g id bond false _ _ _ (hG.below hb0)
  clear hG
  generalize nodeE g id = z at *
  generalize endsR g id bond false = l at *
  go_enter Tryd.func23, Tryd.ntmps23
  go_wp2_with fail
  refine hes.mono ?_
  clear hes
  rintro e w2 ⟨v, rfl, hv, hb2⟩
  obtain ⟨A, c, rfl, _, _⟩ := hv.form
  have HV := Lib.hid hv
  have hB := hb0.trans (hb2.mono hb0.size)
  clear hv hb2
  go_wp2_with fail
  go_ret2
  exact ⟨_, rfl, HV.out, hB⟩
set_option maxRecDepth 100000 in
set_option maxHeartbeats 8000000 in
theorem gin_any (g : Grf) (id : Int) (bond : ByteArray) (vn vt : Value) (w : World) (hG : GrfR w vn vt g) :
    Calls Tryd.prog 25 #[.agg #[vn, vt], .int .i64 id, .string bond] w (RetE (endsR g id bond true) (nodeE g id) w) := by
  obtain ⟨An, cn, rfl, _, _⟩ := hG.1.form
  obtain ⟨At, ct, rfl, _, _⟩ := hG.2.form
  have hb0 : Below w.heap.size w (w.alloc (.cells #[.slice An g.nodes.length cn, .slice At g.ties.length ct] 47)) := (Below.refl _ _).alloc (Nat.le_refl _) _
  obtain ⟨x0, x1⟩ := cell_box2 w (.slice An g.nodes.length cn) (.slice At g.ties.length ct) 47
  have hes := ends2_any g id bond true _ _ _ (hG.below hb0)
  clear hG
  generalize nodeE g id = z at *
  generalize endsR g id bond true = l at *
  go_enter Tryd.func25, Tryd.ntmps25
  go_wp2_with fail
  refine hes.mono ?_
  clear hes
  rintro e w2 ⟨v, rfl, hv, hb2⟩
  obtain ⟨A, c, rfl, _, _⟩ := hv.form
  have HV := Lib.hid hv
  have hB := hb0.trans (hb2.mono hb0.size)
  clear hv hb2
  go_wp2_with fail
  go_ret2
  exact ⟨_, rfl, HV.out, hB⟩
end Go.Proofs.YthefofclbepkoaaDoor

/- errors.As at a target of the program's own error type (a number): its contracts, turned from the guide's worked example. Conditions: the library's variable holds the handle of the type error. -/
namespace Go.Proofs.YthefofclbepkoaaDoor
open Go.RowKit Go.Extern.Stop Go.Stop Go.Extern

/-- errors.As(nil, target). -/
theorem as_nil (t : Value) (w : World) :
    Calls Tryd.prog 74 #[.nilIface, t] w fun e w' => e = .returned (.bool false) ∧ w' = w := by
  go_enter Tryd.func74, Tryd.ntmps74
  go_wp2
  go_ret
  exact ⟨rfl, rfl⟩

/-! ### CLOSED FACTS ON THE MODEL's ENTRIES FOR internal/reflectlite, at this program's types: 25: *p.E · 27: **p.E · 23: error · 45: reflectlite's rtype · 1: how many package-level variables the dump has -/
theorem as_valueOfP (t : Addr) (w : World) : (ReflectliteValue.unpack (.iface 129 (.pointer (some t)))).run Tryd.prog w
    = .ok (.agg #[.pointer (some ⟨8, 129, none⟩), .pointer (some ⟨w.heap.size, 0, none⟩), .int .u64 150]) (w.alloc (.cells #[.pointer (some t)] 129)) := by kernel_rfl
theorem as_typeP (a : Addr) (w : World) : (ReflectliteValue.methodAny (ReflectliteValue.valueError "reflectlite.Value.Type" 0) (fun t _ _ _ => ReflectliteType.toType t) #[.agg #[.pointer (some ⟨8, 129, none⟩), .pointer (some a), .int .u64 150]]).run Tryd.prog w
    = .ok (.iface 177 (.agg #[.pointer (some ⟨8, 129, none⟩)])) w := by kernel_rfl
theorem as_methodKind (h : Value) (w : World) : (Go.method 379 177 (.agg #[h]) "Kind").run Tryd.prog w = .ok (203, h) w := by kernel_rfl
theorem as_kindP (w : World) : ((ReflectliteType.abiMethod fun t => (fun a : Nat => Value.int IntKind.u8 (a : Int)) <$> Rtype.kind t) #[.pointer (some ⟨8, 129, none⟩)]).run Tryd.prog w = .ok (.int .u8 22) w := by kernel_rfl
theorem as_kindE (w : World) : ((ReflectliteType.abiMethod fun t => (fun a : Nat => Value.int IntKind.u8 (a : Int)) <$> Rtype.kind t) #[.pointer (some ⟨8, 83, none⟩)]).run Tryd.prog w = .ok (.int .u8 2) w := by kernel_rfl

/-! ### THE ENTRIES THAT READ OR WRITE MEMORY: laws with a premise on the cell (after Derived/Lib/ReflectliteSlice.lean's manner: each unfolding a lemma of its own, by rfl) -/
theorem rlm (z : Sem Value) (f : TypeId → Addr → Nat → Nat → Sem Value) (v : Value) :
    ReflectliteValue.method z f #[v] = (do match ← ReflectliteValue.parts v with | none => z | some (t, a, fl) => f t a fl (fl % 32)) := rfl
theorem as_partsP (a : Addr) (w : World) : (ReflectliteValue.parts (.agg #[.pointer (some ⟨8, 129, none⟩), .pointer (some a), .int .u64 150])).run Tryd.prog w = .ok (some (129, a, 150)) w := by kernel_rfl
/-- (Value).IsNil at the Value of a **p.E that is not nil. -/
theorem as_isNilP (a p : Addr) (W : World) (ha : W.cell? a = some (.pointer (some p))) :
    (ReflectliteValue.method (ReflectliteValue.valueError "reflectlite.Value.IsNil" 0) ReflectliteValue.isNil #[.agg #[.pointer (some ⟨8, 129, none⟩), .pointer (some a), .int .u64 150]]).run Tryd.prog W = .ok (.bool false) W := by
  rw [rlm]
  simp only [Sem.run_bind, as_partsP, Result.andThen]
  simp [ReflectliteValue.isNil, loadVar, isAgg, underlying, Tryd.underlying129, ha, Result.andThen]

theorem as_methodElem (h : Value) (w : World) : (Go.method 379 177 (.agg #[h]) "Elem").run Tryd.prog w = .ok (214, .agg #[h]) w := by kernel_rfl
theorem as_methodImplements (h : Value) (w : World) : (Go.method 379 177 (.agg #[h]) "Implements").run Tryd.prog w = .ok (215, .agg #[h]) w := by kernel_rfl
theorem as_methodAssignableTo (h : Value) (w : World) : (Go.method 379 177 (.agg #[h]) "AssignableTo").run Tryd.prog w = .ok (212, .agg #[h]) w := by kernel_rfl
theorem as_elemP (w : World) : (ReflectliteType.method ReflectliteType.elem #[.agg #[.pointer (some ⟨8, 129, none⟩)]]).run Tryd.prog w = .ok (.iface 177 (.agg #[.pointer (some ⟨8, 83, none⟩)])) w := by kernel_rfl
theorem as_implementsE (w : World) : (ReflectliteType.relation "Implements" ReflectliteType.implements_ #[.agg #[.pointer (some ⟨8, 83, none⟩)], .iface 177 (.agg #[.pointer (some ⟨8, 31, none⟩)])]).run Tryd.prog w = .ok (.bool true) w := by kernel_rfl
theorem as_typeOfE (v : Value) (w : World) : (ReflectliteType.typeOf #[.iface 83 v]).run Tryd.prog w = .ok (.iface 177 (.agg #[.pointer (some ⟨8, 83, none⟩)])) w := by kernel_rfl
theorem as_assignableE (w : World) : (ReflectliteType.relation "AssignableTo" ReflectliteType.assignableTo #[.agg #[.pointer (some ⟨8, 83, none⟩)], .iface 177 (.agg #[.pointer (some ⟨8, 83, none⟩)])]).run Tryd.prog w = .ok (.bool true) w := by kernel_rfl
theorem as_valueOfE (e : Int) (w : World) : (ReflectliteValue.unpack (.iface 83 (.int .i64 e))).run Tryd.prog w
    = .ok (.agg #[.pointer (some ⟨8, 83, none⟩), .pointer (some ⟨w.heap.size, 0, none⟩), .int .u64 130]) (w.alloc (.cells #[.int .i64 e] 83)) := by kernel_rfl

theorem as_elemOfP (w : World) : (Rtype.elem? 129).run Tryd.prog w = .ok (some 83) w := by kernel_rfl
theorem as_mkE (p : Addr) (w : World) : (ReflectliteValue.mk 83 p ReflectliteValue.flagAddr).run Tryd.prog w = .ok (.agg #[.pointer (some ⟨8, 83, none⟩), .pointer (some p), .int .u64 386]) w := by kernel_rfl
/-- (Value).Elem at the Value of a **p.E that is not nil: the Value of the *p.E variable that it points to, addressable. -/
theorem as_elemVP (a p : Addr) (W : World) (ha : W.cell? a = some (.pointer (some p))) :
    (ReflectliteValue.method (ReflectliteValue.valueError "reflectlite.Value.Elem" 0) ReflectliteValue.elem #[.agg #[.pointer (some ⟨8, 129, none⟩), .pointer (some a), .int .u64 150]]).run Tryd.prog W
      = .ok (.agg #[.pointer (some ⟨8, 83, none⟩), .pointer (some p), .int .u64 386]) W := by
  rw [rlm]
  simp only [Sem.run_bind, as_partsP, Result.andThen]
  simp [ReflectliteValue.elem, loadVar, isAgg, underlying, Tryd.underlying129, ha, Result.andThen, as_elemOfP, as_mkE]
theorem rls (v x : Value) : ReflectliteValue.set #[v, x] = (do
    let (some (dst, a, fl), some (src, b, _)) := (← ReflectliteValue.parts v, ← ReflectliteValue.parts x)
      | unsupported (.noEntry "extern/(internal/reflectlite.Value).Set.zeroValue")
    if fl / ReflectliteValue.flagAddr % 2 == 0 then unsupported (.noEntry "extern/(internal/reflectlite.Value).Set.unaddressable")
    let val ← loadVar src b
    if ← Rtype.directlyAssignable dst src then storeVar dst a val
    else if ← Rtype.implements dst src then
      if (← Rtype.kind src) == 20 then
        match val with
        | .nilIface => unsupported (.noEntry "extern/reflectlite: a nil value of one interface type handed on as a value of another")
        | _ => storeVar dst a val
      else storeVar dst a (.iface src val)
    else panicString ("reflectlite.Set: value of type " ++ (← Rtype.spelt src) ++ " is not assignable to type " ++ (← Rtype.spelt dst))
    pure (.tuple #[])) := rfl
theorem as_partsEa (a : Addr) (w : World) : (ReflectliteValue.parts (.agg #[.pointer (some ⟨8, 83, none⟩), .pointer (some a), .int .u64 386])).run Tryd.prog w = .ok (some (83, a, 386)) w := by kernel_rfl
theorem as_partsE (a : Addr) (w : World) : (ReflectliteValue.parts (.agg #[.pointer (some ⟨8, 83, none⟩), .pointer (some a), .int .u64 130])).run Tryd.prog w = .ok (some (83, a, 130)) w := by kernel_rfl
theorem as_directE (w : World) : (Rtype.directlyAssignable 83 83).run Tryd.prog w = .ok true w := by kernel_rfl
theorem as_sizeE (w : World) : (sizeOf 83).run Tryd.prog w = .ok 1 w := by kernel_rfl
/-- (Value).Set: the *p.E variable at 'ta' gets what the Value's own variable 'b' holds. -/
theorem as_setE (ta b : Addr) (e : Int) (old : Value) (W : World) (hb : W.cell? b = some (.int .i64 e)) (ht : W.cell? ta = some old) (hf : W.frozen? ta = false) :
    (ReflectliteValue.set #[.agg #[.pointer (some ⟨8, 83, none⟩), .pointer (some ta), .int .u64 386], .agg #[.pointer (some ⟨8, 83, none⟩), .pointer (some b), .int .u64 130]]).run Tryd.prog W
      = .ok (.tuple #[]) (W.setCell ta (.int .i64 e)) := by
  rw [rls]
  simp only [Sem.run_bind, as_partsEa, as_partsE, Result.andThen]
  simp [ReflectliteValue.flagAddr, loadVar, isAgg, underlying, Tryd.underlying83, hb, Result.andThen, as_directE, storeVar, Value.cells, storeCells, Addr.add]
  rw [run_store Tryd.prog W ta _ _ (by rfl)]
  simp [ht, hf]

set_option maxRecDepth 100000 in
set_option maxHeartbeats 4000000 in
theorem as_hit (e : Int) (t : Addr) (old : Value) (w : World) (hg : w.cell? ⟨1, 0, none⟩ = some (.iface 177 (.agg #[.pointer (some ⟨8, 31, none⟩)]))) (ht0 : w.cell? t = some old) (hf0 : w.frozen? t = false) :
    Calls Tryd.prog 74 #[.iface 83 (.int .i64 e), .iface 129 (.pointer (some t))] w fun ev w' => ev = .returned (.bool true) ∧ w' = ((((w.alloc (.cells #[.pointer (some t)] 129)).alloc (.cells #[.pointer (some ⟨8, 129, none⟩), .pointer (some ⟨w.heap.size, 0, none⟩), .int .u64 150] 151)).alloc (.cells #[.pointer (some ⟨8, 129, none⟩), .pointer (some ⟨w.heap.size, 0, none⟩), .int .u64 150] 151)).alloc (.cells #[.int .i64 e] 83)).setCell t (.int .i64 e) := by
  have h6 := @run_callFunc_extern Tryd.prog 99 _ (fun args => ReflectliteValue.unpack (args.getD 0 (.tuple #[]))) Tryd.func99 (by kernel_rfl) (by kernel_rfl) (by kernel_rfl) (by kernel_rfl)
  have h7 := @run_callFunc_extern Tryd.prog 100 _ (ReflectliteValue.methodAny (ReflectliteValue.valueError "reflectlite.Value.Type" 0) (fun t _ _ _ => ReflectliteType.toType t)) Tryd.func100 (by kernel_rfl) (by kernel_rfl) (by kernel_rfl) (by kernel_rfl)
  have h8 := @run_callFunc_extern Tryd.prog 101 _ (ReflectliteValue.method (ReflectliteValue.valueError "reflectlite.Value.IsNil" 0) ReflectliteValue.isNil) Tryd.func101 (by kernel_rfl) (by kernel_rfl) (by kernel_rfl) (by kernel_rfl)
  have h27 := @run_callFunc_extern Tryd.prog 203 _ (ReflectliteType.abiMethod fun t => do pure (.int .u8 (← Rtype.kind t))) Tryd.func203 (by kernel_rfl) (by kernel_rfl) (by kernel_rfl) (by kernel_rfl)
  have h37 := @run_callFunc_extern Tryd.prog 214 _ (ReflectliteType.method ReflectliteType.elem) Tryd.func214 (by kernel_rfl) (by kernel_rfl) (by kernel_rfl) (by kernel_rfl)
  have h38 := @run_callFunc_extern Tryd.prog 215 _ (ReflectliteType.relation "Implements" ReflectliteType.implements_) Tryd.func215 (by kernel_rfl) (by kernel_rfl) (by kernel_rfl) (by kernel_rfl)
  have h10 := @run_callFunc_extern Tryd.prog 120 _ ReflectliteType.typeOf Tryd.func120 (by kernel_rfl) (by kernel_rfl) (by kernel_rfl) (by kernel_rfl)
  have h35 := @run_callFunc_extern Tryd.prog 212 _ (ReflectliteType.relation "AssignableTo" ReflectliteType.assignableTo) Tryd.func212 (by kernel_rfl) (by kernel_rfl) (by kernel_rfl) (by kernel_rfl)
  have h11 := @run_callFunc_extern Tryd.prog 121 _ (ReflectliteValue.method (ReflectliteValue.valueError "reflectlite.Value.Elem" 0) ReflectliteValue.elem) Tryd.func121 (by kernel_rfl) (by kernel_rfl) (by kernel_rfl) (by kernel_rfl)
  have h12 := @run_callFunc_extern Tryd.prog 122 _ ReflectliteValue.set Tryd.func122 (by kernel_rfl) (by kernel_rfl) (by kernel_rfl) (by kernel_rfl)
  have tO := as_typeOfE
  have mA := as_methodAssignableTo
  have a25 := as_assignableE
  have v25 := as_valueOfE
  have f6 := as_valueOfP
  have f7 := as_typeP
  have mK := as_methodKind
  have mE := as_methodElem
  have mI := as_methodImplements
  have k27 := as_kindP
  have k25 := as_kindE
  have e27 := as_elemP
  have i25 := as_implementsE
  have n8 := as_isNilP ⟨w.heap.size, 0, none⟩ t ((w.alloc (.cells #[.pointer (some t)] 129)).alloc (.cells #[.pointer (some ⟨8, 129, none⟩), .pointer (some ⟨w.heap.size, 0, none⟩), .int .u64 150] 151)) (by simp)
  have hlt : 1 < w.heap.size := World.block_lt_of_cell? _ _ hg
  have hg2 : ((w.alloc (.cells #[.pointer (some t)] 129)).alloc (.cells #[.pointer (some ⟨8, 129, none⟩), .pointer (some ⟨w.heap.size, 0, none⟩), .int .u64 150] 151)).cell? ⟨1, 0, none⟩ = some (.iface 177 (.agg #[.pointer (some ⟨8, 31, none⟩)])) := by
    rw [World.cell?_alloc_lt _ _ ⟨1, 0, none⟩ (by simp only [World.size_alloc]; omega), World.cell?_alloc_lt _ _ ⟨1, 0, none⟩ hlt]; exact hg
  have htl : t.block < w.heap.size := by
    rcases Nat.lt_or_ge t.block w.heap.size with h | h
    · exact h
    · simp [World.cell?, Array.getElem?_eq_none h] at ht0
  have el := as_elemVP ⟨w.heap.size, 0, none⟩ t (((w.alloc (.cells #[.pointer (some t)] 129)).alloc (.cells #[.pointer (some ⟨8, 129, none⟩), .pointer (some ⟨w.heap.size, 0, none⟩), .int .u64 150] 151)).alloc (.cells #[.pointer (some ⟨8, 129, none⟩), .pointer (some ⟨w.heap.size, 0, none⟩), .int .u64 150] 151)) (by rw [World.cell?_alloc_lt _ _ ⟨w.heap.size, 0, none⟩ (by simp; omega)]; simp)
  have st := as_setE t ⟨w.heap.size + 1 + 1 + 1, 0, none⟩ e old ((((w.alloc (.cells #[.pointer (some t)] 129)).alloc (.cells #[.pointer (some ⟨8, 129, none⟩), .pointer (some ⟨w.heap.size, 0, none⟩), .int .u64 150] 151)).alloc (.cells #[.pointer (some ⟨8, 129, none⟩), .pointer (some ⟨w.heap.size, 0, none⟩), .int .u64 150] 151)).alloc (.cells #[.int .i64 e] 83))
    (by rw [World.cell?_alloc_at _ _ _ _ (by simp)]; rfl)
    (by rw [World.cell?_alloc_lt _ _ t (by simp; omega), World.cell?_alloc_lt _ _ t (by simp; omega), World.cell?_alloc_lt _ _ t (by simp; omega), World.cell?_alloc_lt _ _ t htl]; exact ht0)
    (by rw [World.frozen?_alloc_old _ _ t (by simp; omega), World.frozen?_alloc_old _ _ t (by simp; omega), World.frozen?_alloc_old _ _ t (by simp; omega), World.frozen?_alloc_old _ _ t (Nat.ne_of_lt htl)]; exact hf0)
  go_enter Tryd.func74, Tryd.ntmps74
  go_wp2
  refine wp_loop_rounds 1 ?_
  rw [rounds_succ]
  go_wp2
  go_ret
  exact ⟨rfl, rfl⟩
end Go.Proofs.YthefofclbepkoaaDoor

/- Contracts: plain.Told, kinsame.Error. Conditions: the library's variable holds the handle of the type error. -/
namespace Go.Proofs.YthefofclbepkoaaDoor
open Go Go.RowKit

/-- The library's variable holds the handle of the type error. -/
def GlobOk (w : World) : Prop := w.cell? ⟨1, 0, none⟩ = some (.iface 177 (.agg #[.pointer (some ⟨8, 31, none⟩)]))
theorem GlobOk.below {w w' : World} (hb : Below w.heap.size w w') (h : GlobOk w) : GlobOk w' := cell_below hb h
theorem below_al {w w' : World} (h : Below w.heap.size w w') (o : Obj) : Below w.heap.size w (w'.alloc o) := h.alloc h.size o
set_option maxHeartbeats 1000000 in
theorem told_any (k : Int) (w : World) (hg : GlobOk w) : Calls Tryd.prog 39 #[errV k] w fun e w' => e = .returned (.int .i64 k) ∧ Below w.heap.size w w' := by
  by_cases hk : k = 0
  · subst hk
    rw [errV_zero rfl]
    go_enter Tryd.func39, Tryd.ntmps39
    go_wp2_with fail
    go_ret
    exact ⟨rfl, Below.refl _ _⟩
  · rw [errV_some hk]
    clear hk
    have hb0 : Below w.heap.size w (w.alloc (.cells #[.int .i64 0] 83)) := (Below.refl _ _).alloc (Nat.le_refl _) _
    have h1 := as_hit k ⟨w.heap.size, 0, none⟩ (.int .i64 0) (w.alloc (.cells #[.int .i64 0] 83)) (hg.below hb0) (by rw [World.cell?_alloc_at _ _ _ _ rfl]; rfl) (by simp)
    clear hg
    go_enter Tryd.func39, Tryd.ntmps39
    go_wp2_with fail
    refine h1.mono ?_
    clear h1
    rintro e w' ⟨rfl, rfl⟩
    go_wp2_with fail
    go_ret
    refine ⟨rfl, ?_⟩
    exact below_al (below_al (below_al (below_al (below_al (Below.refl _ _) _) _) _) _) _
theorem same_any (k n : Int) (w : World) (hg : GlobOk w) : Calls Tryd.prog 11 #[errV k, .int .i64 n] w fun e w' => e = .returned (.bool (k == n)) ∧ Below w.heap.size w w' := by
  have h1 := told_any k w hg
  generalize errV k = v at *
  clear hg
  go_enter Tryd.func11, Tryd.ntmps11
  go_wp2_with fail
  refine h1.mono ?_
  clear h1
  rintro e w' ⟨rfl, hb⟩
  go_wp2_with fail
  go_ret
  exact ⟨rfl, hb⟩
end Go.Proofs.YthefofclbepkoaaDoor

/- Contract: graph.Next. -/
namespace Go.Proofs.YthefofclbepkoaaDoor
open Go Go.RowKit

def nextI (l : List Nod) : Int := match l[l.length - 1]? with | some d => d.id + 1 | none => 1
def nextE (g : Grf) : Int := if grfE g = 0 then (if idB (nextI g.nodes) then 0 else 4) else grfE g
def nextN (g : Grf) : Int := if nextE g = 0 then nextI g.nodes else 0
set_option maxHeartbeats 1000000 in
theorem next_any (g : Grf) (vn vt : Value) (w : World) (hg : GrfR w vn vt g) :
    Calls Tryd.prog 26 #[.agg #[vn, vt]] w fun e w' => e = .returned (.tuple #[.int .i64 (nextN g), errV (nextE g)]) ∧ Below w.heap.size w w' := by
  obtain ⟨A, c, rfl, _, hc⟩ := hg.1.form
  obtain ⟨A', c', rfl, _, _⟩ := hg.2.form
  unfold maxLen at hc
  obtain ⟨z0, z1⟩ := cell_box2 w (.slice A g.nodes.length c) (.slice A' g.ties.length c') 47
  have hb0 : Below w.heap.size w (w.alloc (.cells #[.slice A g.nodes.length c, .slice A' g.ties.length c'] 47)) := (Below.refl _ _).alloc (Nat.le_refl _) _
  have h1 := grfCheck_any g _ _ _ (hg.below hb0)
  have HG := Lib.hid hg
  clear hg
  go_enter Tryd.func26, Tryd.ntmps26
  go_wp2_with fail
  refine h1.mono ?_
  clear h1
  rintro e w1 ⟨rfl, hb1⟩
  have hB1 := hb0.trans (hb1.mono hb0.size)
  have y0 := cell_below hb1 z0
  have y1 := cell_below hb1 z1
  clear z0 z1 hb1 hb0
  by_cases he : grfE g = 0
  case neg =>
    have HE : Hid (nextE g = grfE g ∧ nextN g = 0) := by
      have : nextE g = grfE g := by unfold nextE; rw [if_neg he]
      exact ⟨this, by unfold nextN; rw [this, if_neg he]⟩
    have HV : Hid (errV (grfE g) = .iface 83 (.int .i64 (grfE g))) := errV_some he
    rw [errV_some he]
    clear he
    go_wp2_with fail
    go_ret2
    exact ⟨by rw [HE.out.1, HE.out.2, HV.out]; rfl, hB1⟩
  have HE : Hid (nextE g = if idB (nextI g.nodes) then 0 else 4) := by unfold Hid nextE; rw [if_pos he]
  rw [errV_zero he]
  obtain ⟨hlen, _, _, hids⟩ := grf_ok he
  clear he
  by_cases h0 : 0 < g.nodes.length
  · obtain ⟨d, hd⟩ : ∃ d, g.nodes[g.nodes.length - 1]? = some d := ⟨_, List.getElem?_eq_getElem (by omega)⟩
    obtain ⟨b, o, rfl, u, hid, _, _, c0, _, _⟩ := nod_at (HG.out.1.below hB1) hd
    have HN : Hid (nextI g.nodes = d.id + 1) := by unfold Hid nextI; rw [hd]
    have hd1 := (hids d (List.mem_of_getElem? hd)).1
    have hd2 : 1 ≤ d.id ∧ d.id ≤ 1000 := by unfold idB at hd1; simpa using hd1
    obtain ⟨hd3, hd4⟩ := hd2
    have h0' : (0 : Int) < (g.nodes.length : Int) := by omega
    have hl60 : (g.nodes.length : Int) ≤ 60 := by omega
    have hi1 : ((g.nodes.length : Int) - 1).toNat = g.nodes.length - 1 := by omega
    have hi2 : (0 : Int) ≤ (g.nodes.length : Int) - 1 := by omega
    have hi3 : (g.nodes.length : Int) - 1 < (g.nodes.length : Int) := by omega
    clear hids hd hd1
    go_wp2_with fail
    refine (id_b (d.id + 1) _).mono ?_
    rintro e w2 ⟨rfl, rfl⟩
    cases hq : idB (d.id + 1) with
    | true =>
      have HF : Hid (nextE g = 0 ∧ nextN g = d.id + 1) := by
        have : nextE g = 0 := by rw [HE.out, HN.out, hq]; rfl
        exact ⟨this, by unfold nextN; rw [if_pos this]; exact HN.out⟩
      clear hq
      go_wp2_with fail
      go_ret2
      exact ⟨by rw [HF.out.1, HF.out.2, errV_zero rfl]; rfl, hB1⟩
    | false =>
      have HF : Hid (nextE g = 4 ∧ nextN g = 0) := by
        have : nextE g = 4 := by rw [HE.out, HN.out, hq]; rfl
        exact ⟨this, by unfold nextN; rw [this]; rfl⟩
      clear hq
      go_wp2_with fail
      go_ret2
      exact ⟨by rw [HF.out.1, HF.out.2]; rfl, hB1⟩
  · have hl0 : g.nodes.length = 0 := by omega
    have h0' : (g.nodes.length : Int) ≤ 0 := by omega
    have HF : Hid (nextE g = 0 ∧ nextN g = 1) := by
      have h1 : nextI g.nodes = 1 := by unfold nextI; rw [List.getElem?_eq_none (by omega)]
      have : nextE g = 0 := by rw [HE.out, h1]; rfl
      exact ⟨this, by unfold nextN; rw [if_pos this]; exact h1⟩
    clear hl0 hids
    go_wp2_with fail
    refine (id_b 1 _).mono ?_
    rintro e w2 ⟨rfl, rfl⟩
    have hq : idB 1 = true := by decide
    rw [hq]
    clear hq
    go_wp2_with fail
    go_ret2
    exact ⟨by rw [HF.out.1, HF.out.2, errV_zero rfl]; rfl, hB1⟩
end Go.Proofs.YthefofclbepkoaaDoor
