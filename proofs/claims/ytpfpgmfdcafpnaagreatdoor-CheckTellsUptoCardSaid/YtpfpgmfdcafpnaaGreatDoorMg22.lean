/- Parts: EndB, As, Told, GNext, GtP, CkG. -/
import Derived.Test.YtpfpgmfdcafpnaaGreatDoorMg17
import Derived.Test.YtpfpgmfdcafpnaaGreatDoorMg01
import Derived.Test.YtpfpgmfdcafpnaaGreatDoorRows
import Derived.WalkKit
import Derived.LaidEql
import Derived.Stop.Asserts
import Derived.RowKitTokens
import Derived.Test.YtpfpgmfdcafpnaaGreatDoorMg16
import Derived.Test.YtpfpgmfdcafpnaaGreatDoorMg21
import Derived.Test.YtpfpgmfdcafpnaaGreatDoorMg18
/- Contracts: graph.ends, graph.Out, graph.In. -/
namespace Go.Proofs.YtpfpgmfdcafpnaaGreatDoor
open Go Go.RowKit

def endsR (g : Grf) (id : Int) (bond : ByteArray) (back : Bool) : List Int := if nodeE g id = 0 then endsS g id bond back else []
/-- Ends, and an error. -/
def RetE (l : List Int) (err : Int) (w : World) (e : Ending) (w' : World) : Prop := ∃ u, e = .returned (.tuple #[u, errV err]) ∧ Sl intL w' u l ∧ Below w.heap.size w w'
theorem nodeE_grf {g : Grf} {id : Int} (h : nodeE g id = 0) : grfE g = 0 := by
  unfold nodeE at h
  split at h
  · assumption
  · rename_i h1; exact absurd h h1
end Go.Proofs.YtpfpgmfdcafpnaaGreatDoor

/- errors.As at a target of the program's own error type (a number): its contracts, turned from the guide's worked example. Conditions: the library's variable holds the handle of the type error. -/
namespace Go.Proofs.YtpfpgmfdcafpnaaGreatDoor
open Go.RowKit Go.Extern.Stop Go.Stop Go.Extern

/-- errors.As(nil, target). -/
theorem as_nil (t : Value) (w : World) :
    Calls Tryz.prog 47 #[.nilIface, t] w fun e w' => e = .returned (.bool false) ∧ w' = w := by
  go_enter Tryz.func47, Tryz.ntmps47
  go_wp2
  go_ret
  exact ⟨rfl, rfl⟩

/-! ### CLOSED FACTS ON THE MODEL's ENTRIES FOR internal/reflectlite, at this program's types: 25: *p.E · 27: **p.E · 23: error · 45: reflectlite's rtype · 1: how many package-level variables the dump has -/
theorem as_valueOfP (t : Addr) (w : World) : (ReflectliteValue.unpack (.iface 107 (.pointer (some t)))).run Tryz.prog w
    = .ok (.agg #[.pointer (some ⟨2, 107, none⟩), .pointer (some ⟨w.heap.size, 0, none⟩), .int .u64 150]) (w.alloc (.cells #[.pointer (some t)] 107)) := by kernel_rfl
theorem as_typeP (a : Addr) (w : World) : (ReflectliteValue.methodAny (ReflectliteValue.valueError "reflectlite.Value.Type" 0) (fun t _ _ _ => ReflectliteType.toType t) #[.agg #[.pointer (some ⟨2, 107, none⟩), .pointer (some a), .int .u64 150]]).run Tryz.prog w
    = .ok (.iface 166 (.agg #[.pointer (some ⟨2, 107, none⟩)])) w := by kernel_rfl
theorem as_methodKind (h : Value) (w : World) : (Go.method 341 166 (.agg #[h]) "Kind").run Tryz.prog w = .ok (143, h) w := by kernel_rfl
theorem as_kindP (w : World) : ((ReflectliteType.abiMethod fun t => (fun a : Nat => Value.int IntKind.u8 (a : Int)) <$> Rtype.kind t) #[.pointer (some ⟨2, 107, none⟩)]).run Tryz.prog w = .ok (.int .u8 22) w := by kernel_rfl
theorem as_kindE (w : World) : ((ReflectliteType.abiMethod fun t => (fun a : Nat => Value.int IntKind.u8 (a : Int)) <$> Rtype.kind t) #[.pointer (some ⟨2, 76, none⟩)]).run Tryz.prog w = .ok (.int .u8 2) w := by kernel_rfl

/-! ### THE ENTRIES THAT READ OR WRITE MEMORY: laws with a premise on the cell (after Derived/Lib/ReflectliteSlice.lean's manner: each unfolding a lemma of its own, by rfl) -/
theorem rlm (z : Sem Value) (f : TypeId → Addr → Nat → Nat → Sem Value) (v : Value) :
    ReflectliteValue.method z f #[v] = (do match ← ReflectliteValue.parts v with | none => z | some (t, a, fl) => f t a fl (fl % 32)) := rfl
theorem as_partsP (a : Addr) (w : World) : (ReflectliteValue.parts (.agg #[.pointer (some ⟨2, 107, none⟩), .pointer (some a), .int .u64 150])).run Tryz.prog w = .ok (some (107, a, 150)) w := by kernel_rfl
/-- (Value).IsNil at the Value of a **p.E that is not nil. -/
theorem as_isNilP (a p : Addr) (W : World) (ha : W.cell? a = some (.pointer (some p))) :
    (ReflectliteValue.method (ReflectliteValue.valueError "reflectlite.Value.IsNil" 0) ReflectliteValue.isNil #[.agg #[.pointer (some ⟨2, 107, none⟩), .pointer (some a), .int .u64 150]]).run Tryz.prog W = .ok (.bool false) W := by
  rw [rlm]
  simp only [Sem.run_bind, as_partsP, Result.andThen]
  simp [ReflectliteValue.isNil, loadVar, isAgg, underlying, Tryz.underlying107, ha, Result.andThen]

theorem as_methodElem (h : Value) (w : World) : (Go.method 341 166 (.agg #[h]) "Elem").run Tryz.prog w = .ok (153, .agg #[h]) w := by kernel_rfl
theorem as_methodImplements (h : Value) (w : World) : (Go.method 341 166 (.agg #[h]) "Implements").run Tryz.prog w = .ok (154, .agg #[h]) w := by kernel_rfl
theorem as_methodAssignableTo (h : Value) (w : World) : (Go.method 341 166 (.agg #[h]) "AssignableTo").run Tryz.prog w = .ok (151, .agg #[h]) w := by kernel_rfl
theorem as_elemP (w : World) : (ReflectliteType.method ReflectliteType.elem #[.agg #[.pointer (some ⟨2, 107, none⟩)]]).run Tryz.prog w = .ok (.iface 166 (.agg #[.pointer (some ⟨2, 76, none⟩)])) w := by kernel_rfl
theorem as_implementsE (w : World) : (ReflectliteType.relation "Implements" ReflectliteType.implements_ #[.agg #[.pointer (some ⟨2, 76, none⟩)], .iface 166 (.agg #[.pointer (some ⟨2, 38, none⟩)])]).run Tryz.prog w = .ok (.bool true) w := by kernel_rfl
theorem as_typeOfE (v : Value) (w : World) : (ReflectliteType.typeOf #[.iface 76 v]).run Tryz.prog w = .ok (.iface 166 (.agg #[.pointer (some ⟨2, 76, none⟩)])) w := by kernel_rfl
theorem as_assignableE (w : World) : (ReflectliteType.relation "AssignableTo" ReflectliteType.assignableTo #[.agg #[.pointer (some ⟨2, 76, none⟩)], .iface 166 (.agg #[.pointer (some ⟨2, 76, none⟩)])]).run Tryz.prog w = .ok (.bool true) w := by kernel_rfl
theorem as_valueOfE (e : Int) (w : World) : (ReflectliteValue.unpack (.iface 76 (.int .i64 e))).run Tryz.prog w
    = .ok (.agg #[.pointer (some ⟨2, 76, none⟩), .pointer (some ⟨w.heap.size, 0, none⟩), .int .u64 130]) (w.alloc (.cells #[.int .i64 e] 76)) := by kernel_rfl

theorem as_elemOfP (w : World) : (Rtype.elem? 107).run Tryz.prog w = .ok (some 76) w := by kernel_rfl
theorem as_mkE (p : Addr) (w : World) : (ReflectliteValue.mk 76 p ReflectliteValue.flagAddr).run Tryz.prog w = .ok (.agg #[.pointer (some ⟨2, 76, none⟩), .pointer (some p), .int .u64 386]) w := by kernel_rfl
/-- (Value).Elem at the Value of a **p.E that is not nil: the Value of the *p.E variable that it points to, addressable. -/
theorem as_elemVP (a p : Addr) (W : World) (ha : W.cell? a = some (.pointer (some p))) :
    (ReflectliteValue.method (ReflectliteValue.valueError "reflectlite.Value.Elem" 0) ReflectliteValue.elem #[.agg #[.pointer (some ⟨2, 107, none⟩), .pointer (some a), .int .u64 150]]).run Tryz.prog W
      = .ok (.agg #[.pointer (some ⟨2, 76, none⟩), .pointer (some p), .int .u64 386]) W := by
  rw [rlm]
  simp only [Sem.run_bind, as_partsP, Result.andThen]
  simp [ReflectliteValue.elem, loadVar, isAgg, underlying, Tryz.underlying107, ha, Result.andThen, as_elemOfP, as_mkE]
theorem rls (v x : Value) : ReflectliteValue.set #[v, x] = (do
    let (some (dst, a, fl), some (src, b, _)) := (← ReflectliteValue.parts v, ← ReflectliteValue.parts x)
      | unsupported (.noEntry "extern/(internal/reflectlite.Value).Set.zeroValue")
    if fl / ReflectliteValue.flagAddr % 2 == 0 then unsupported (.noEntry "extern/(internal/reflectlite.Value).Set.unaddressable")
    let val ← loadVar src b
    if ← Rtype.directlyAssignable dst src then storeVar dst a val
    else if ← Rtype.implements dst src then
      if (← Rtype.kind src) == 20 then
        match val with
        | .nilIface => unsupported (.noEntry "extern/reflectlite: a nil value of one interface type handed on as a value of another")
        | _ => storeVar dst a val
      else storeVar dst a (.iface src val)
    else panicString ("reflectlite.Set: value of type " ++ (← Rtype.spelt src) ++ " is not assignable to type " ++ (← Rtype.spelt dst))
    pure (.tuple #[])) := rfl
theorem as_partsEa (a : Addr) (w : World) : (ReflectliteValue.parts (.agg #[.pointer (some ⟨2, 76, none⟩), .pointer (some a), .int .u64 386])).run Tryz.prog w = .ok (some (76, a, 386)) w := by kernel_rfl
theorem as_partsE (a : Addr) (w : World) : (ReflectliteValue.parts (.agg #[.pointer (some ⟨2, 76, none⟩), .pointer (some a), .int .u64 130])).run Tryz.prog w = .ok (some (76, a, 130)) w := by kernel_rfl
theorem as_directE (w : World) : (Rtype.directlyAssignable 76 76).run Tryz.prog w = .ok true w := by kernel_rfl
theorem as_sizeE (w : World) : (sizeOf 76).run Tryz.prog w = .ok 1 w := by kernel_rfl
/-- (Value).Set: the *p.E variable at 'ta' gets what the Value's own variable 'b' holds. -/
theorem as_setE (ta b : Addr) (e : Int) (old : Value) (W : World) (hb : W.cell? b = some (.int .i64 e)) (ht : W.cell? ta = some old) (hf : W.frozen? ta = false) :
    (ReflectliteValue.set #[.agg #[.pointer (some ⟨2, 76, none⟩), .pointer (some ta), .int .u64 386], .agg #[.pointer (some ⟨2, 76, none⟩), .pointer (some b), .int .u64 130]]).run Tryz.prog W
      = .ok (.tuple #[]) (W.setCell ta (.int .i64 e)) := by
  rw [rls]
  simp only [Sem.run_bind, as_partsEa, as_partsE, Result.andThen]
  simp [ReflectliteValue.flagAddr, loadVar, isAgg, underlying, Tryz.underlying76, hb, Result.andThen, as_directE, storeVar, Value.cells, storeCells, Addr.add]
  rw [run_store Tryz.prog W ta _ _ (by rfl)]
  simp [ht, hf]

set_option maxRecDepth 100000 in
set_option maxHeartbeats 4000000 in
theorem as_hit (e : Int) (t : Addr) (old : Value) (w : World) (hg : w.cell? ⟨0, 0, none⟩ = some (.iface 166 (.agg #[.pointer (some ⟨2, 38, none⟩)]))) (ht0 : w.cell? t = some old) (hf0 : w.frozen? t = false) :
    Calls Tryz.prog 47 #[.iface 76 (.int .i64 e), .iface 107 (.pointer (some t))] w fun ev w' => ev = .returned (.bool true) ∧ w' = ((((w.alloc (.cells #[.pointer (some t)] 107)).alloc (.cells #[.pointer (some ⟨2, 107, none⟩), .pointer (some ⟨w.heap.size, 0, none⟩), .int .u64 150] 128)).alloc (.cells #[.pointer (some ⟨2, 107, none⟩), .pointer (some ⟨w.heap.size, 0, none⟩), .int .u64 150] 128)).alloc (.cells #[.int .i64 e] 76)).setCell t (.int .i64 e) := by
  have h6 := @run_callFunc_extern Tryz.prog 66 _ (fun args => ReflectliteValue.unpack (args.getD 0 (.tuple #[]))) Tryz.func66 (by kernel_rfl) (by kernel_rfl) (by kernel_rfl) (by kernel_rfl)
  have h7 := @run_callFunc_extern Tryz.prog 67 _ (ReflectliteValue.methodAny (ReflectliteValue.valueError "reflectlite.Value.Type" 0) (fun t _ _ _ => ReflectliteType.toType t)) Tryz.func67 (by kernel_rfl) (by kernel_rfl) (by kernel_rfl) (by kernel_rfl)
  have h8 := @run_callFunc_extern Tryz.prog 68 _ (ReflectliteValue.method (ReflectliteValue.valueError "reflectlite.Value.IsNil" 0) ReflectliteValue.isNil) Tryz.func68 (by kernel_rfl) (by kernel_rfl) (by kernel_rfl) (by kernel_rfl)
  have h27 := @run_callFunc_extern Tryz.prog 143 _ (ReflectliteType.abiMethod fun t => do pure (.int .u8 (← Rtype.kind t))) Tryz.func143 (by kernel_rfl) (by kernel_rfl) (by kernel_rfl) (by kernel_rfl)
  have h37 := @run_callFunc_extern Tryz.prog 153 _ (ReflectliteType.method ReflectliteType.elem) Tryz.func153 (by kernel_rfl) (by kernel_rfl) (by kernel_rfl) (by kernel_rfl)
  have h38 := @run_callFunc_extern Tryz.prog 154 _ (ReflectliteType.relation "Implements" ReflectliteType.implements_) Tryz.func154 (by kernel_rfl) (by kernel_rfl) (by kernel_rfl) (by kernel_rfl)
  have h10 := @run_callFunc_extern Tryz.prog 92 _ ReflectliteType.typeOf Tryz.func92 (by kernel_rfl) (by kernel_rfl) (by kernel_rfl) (by kernel_rfl)
  have h35 := @run_callFunc_extern Tryz.prog 151 _ (ReflectliteType.relation "AssignableTo" ReflectliteType.assignableTo) Tryz.func151 (by kernel_rfl) (by kernel_rfl) (by kernel_rfl) (by kernel_rfl)
  have h11 := @run_callFunc_extern Tryz.prog 93 _ (ReflectliteValue.method (ReflectliteValue.valueError "reflectlite.Value.Elem" 0) ReflectliteValue.elem) Tryz.func93 (by kernel_rfl) (by kernel_rfl) (by kernel_rfl) (by kernel_rfl)
  have h12 := @run_callFunc_extern Tryz.prog 94 _ ReflectliteValue.set Tryz.func94 (by kernel_rfl) (by kernel_rfl) (by kernel_rfl) (by kernel_rfl)
  have tO := as_typeOfE
  have mA := as_methodAssignableTo
  have a25 := as_assignableE
  have v25 := as_valueOfE
  have f6 := as_valueOfP
  have f7 := as_typeP
  have mK := as_methodKind
  have mE := as_methodElem
  have mI := as_methodImplements
  have k27 := as_kindP
  have k25 := as_kindE
  have e27 := as_elemP
  have i25 := as_implementsE
  have n8 := as_isNilP ⟨w.heap.size, 0, none⟩ t ((w.alloc (.cells #[.pointer (some t)] 107)).alloc (.cells #[.pointer (some ⟨2, 107, none⟩), .pointer (some ⟨w.heap.size, 0, none⟩), .int .u64 150] 128)) (by simp)
  have hlt : 0 < w.heap.size := World.block_lt_of_cell? _ _ hg
  have hg2 : ((w.alloc (.cells #[.pointer (some t)] 107)).alloc (.cells #[.pointer (some ⟨2, 107, none⟩), .pointer (some ⟨w.heap.size, 0, none⟩), .int .u64 150] 128)).cell? ⟨0, 0, none⟩ = some (.iface 166 (.agg #[.pointer (some ⟨2, 38, none⟩)])) := by
    rw [World.cell?_alloc_lt _ _ ⟨0, 0, none⟩ (by simp only [World.size_alloc]; omega), World.cell?_alloc_lt _ _ ⟨0, 0, none⟩ hlt]; exact hg
  have htl : t.block < w.heap.size := by
    rcases Nat.lt_or_ge t.block w.heap.size with h | h
    · exact h
    · simp [World.cell?, Array.getElem?_eq_none h] at ht0
  have el := as_elemVP ⟨w.heap.size, 0, none⟩ t (((w.alloc (.cells #[.pointer (some t)] 107)).alloc (.cells #[.pointer (some ⟨2, 107, none⟩), .pointer (some ⟨w.heap.size, 0, none⟩), .int .u64 150] 128)).alloc (.cells #[.pointer (some ⟨2, 107, none⟩), .pointer (some ⟨w.heap.size, 0, none⟩), .int .u64 150] 128)) (by rw [World.cell?_alloc_lt _ _ ⟨w.heap.size, 0, none⟩ (by simp; omega)]; simp)
  have st := as_setE t ⟨w.heap.size + 1 + 1 + 1, 0, none⟩ e old ((((w.alloc (.cells #[.pointer (some t)] 107)).alloc (.cells #[.pointer (some ⟨2, 107, none⟩), .pointer (some ⟨w.heap.size, 0, none⟩), .int .u64 150] 128)).alloc (.cells #[.pointer (some ⟨2, 107, none⟩), .pointer (some ⟨w.heap.size, 0, none⟩), .int .u64 150] 128)).alloc (.cells #[.int .i64 e] 76))
    (by rw [World.cell?_alloc_at _ _ _ _ (by simp)]; rfl)
    (by rw [World.cell?_alloc_lt _ _ t (by simp; omega), World.cell?_alloc_lt _ _ t (by simp; omega), World.cell?_alloc_lt _ _ t (by simp; omega), World.cell?_alloc_lt _ _ t htl]; exact ht0)
    (by rw [World.frozen?_alloc_old _ _ t (by simp; omega), World.frozen?_alloc_old _ _ t (by simp; omega), World.frozen?_alloc_old _ _ t (by simp; omega), World.frozen?_alloc_old _ _ t (Nat.ne_of_lt htl)]; exact hf0)
  go_enter Tryz.func47, Tryz.ntmps47
  go_wp2
  refine wp_loop_rounds 1 ?_
  rw [rounds_succ]
  go_wp2
  go_ret
  exact ⟨rfl, rfl⟩
end Go.Proofs.YtpfpgmfdcafpnaaGreatDoor

/- Contracts: plain.Told, kinsame.Error. Conditions: the library's variable holds the handle of the type error. -/
namespace Go.Proofs.YtpfpgmfdcafpnaaGreatDoor
open Go Go.RowKit

/-- The library's variable holds the handle of the type error. -/
def GlobOk (w : World) : Prop := w.cell? ⟨0, 0, none⟩ = some (.iface 166 (.agg #[.pointer (some ⟨2, 38, none⟩)]))
theorem GlobOk.below {w w' : World} (hb : Below w.heap.size w w') (h : GlobOk w) : GlobOk w' := cell_below hb h
theorem below_al {w w' : World} (h : Below w.heap.size w w') (o : Obj) : Below w.heap.size w (w'.alloc o) := h.alloc h.size o
set_option maxHeartbeats 1000000 in
theorem told_any (k : Int) (w : World) (hg : GlobOk w) : Calls Tryz.prog 26 #[errV k] w fun e w' => e = .returned (.int .i64 k) ∧ Below w.heap.size w w' := by
  by_cases hk : k = 0
  · subst hk
    rw [errV_zero rfl]
    go_enter Tryz.func26, Tryz.ntmps26
    go_wp2_with fail
    go_ret
    exact ⟨rfl, Below.refl _ _⟩
  · rw [errV_some hk]
    clear hk
    have hb0 : Below w.heap.size w (w.alloc (.cells #[.int .i64 0] 76)) := (Below.refl _ _).alloc (Nat.le_refl _) _
    have h1 := as_hit k ⟨w.heap.size, 0, none⟩ (.int .i64 0) (w.alloc (.cells #[.int .i64 0] 76)) (hg.below hb0) (by rw [World.cell?_alloc_at _ _ _ _ rfl]; rfl) (by simp)
    clear hg
    go_enter Tryz.func26, Tryz.ntmps26
    go_wp2_with fail
    refine h1.mono ?_
    clear h1
    rintro e w' ⟨rfl, rfl⟩
    go_wp2_with fail
    go_ret
    refine ⟨rfl, ?_⟩
    exact below_al (below_al (below_al (below_al (below_al (Below.refl _ _) _) _) _) _) _
theorem same_any (k n : Int) (w : World) (hg : GlobOk w) : Calls Tryz.prog 7 #[errV k, .int .i64 n] w fun e w' => e = .returned (.bool (k == n)) ∧ Below w.heap.size w w' := by
  have h1 := told_any k w hg
  generalize errV k = v at *
  clear hg
  go_enter Tryz.func7, Tryz.ntmps7
  go_wp2_with fail
  refine h1.mono ?_
  clear h1
  rintro e w' ⟨rfl, hb⟩
  go_wp2_with fail
  go_ret
  exact ⟨rfl, hb⟩
end Go.Proofs.YtpfpgmfdcafpnaaGreatDoor

/- Contract: graph.Next. -/
namespace Go.Proofs.YtpfpgmfdcafpnaaGreatDoor
open Go Go.RowKit

def nextI (l : List Nod) : Int := match l[l.length - 1]? with | some d => d.id + 1 | none => 1
def nextE (g : Grf) : Int := if grfE g = 0 then (if idB (nextI g.nodes) then 0 else 4) else grfE g
def nextN (g : Grf) : Int := if nextE g = 0 then nextI g.nodes else 0
end Go.Proofs.YtpfpgmfdcafpnaaGreatDoor

/- Plain: where a node of a number is; the next number. No condition. -/
namespace Go.Proofs.YtpfpgmfdcafpnaaGreatDoor
open Go Go.RowKit

theorem rf_neg {g : Grf} {id : Int} (h : grfE g = 0) (hn : rfI g.nodes id < 0) : nodeE g id = 5 := by
  have hch := (grf_ok h).2.2.1
  unfold nodeE
  rw [if_pos h, ids_has hch]
  have hno : id ∉ idsN g.nodes := fun hm => by
    obtain ⟨n, hn1, hn2⟩ := List.mem_map.1 hm
    obtain ⟨i, hi⟩ := List.mem_iff_getElem?.1 hn1
    unfold rfI idxI at hn
    split at hn
    · omega
    · rename_i hf
      rw [List.findIdx?_eq_none_iff] at hf
      have := hf n hn1
      simp [hn2] at this
  simp [hno]
theorem rf_pos {g : Grf} {id : Int} (h : grfE g = 0) (hn : 0 ≤ rfI g.nodes id) : ∃ (i : Nat) (n : Nod), rfI g.nodes id = i ∧ g.nodes[i]? = some n ∧ nodeE g id = 0 ∧ nodeR g id = n := by
  have hch := (grf_ok h).2.2.1
  obtain ⟨i, n, h1, h2, h3, _⟩ := idxI_nonneg (p := fun n : Nod => decide (n.id = id)) (l := g.nodes) hn
  have h3 : n.id = id := of_decide_eq_true h3
  have hm : id ∈ idsN g.nodes := List.mem_map.2 ⟨n, List.mem_of_getElem? h2, h3⟩
  have hf : fhas g.nodes id = true := by rw [ids_has hch]; simpa using hm
  have hE : nodeE g id = 0 := by unfold nodeE; rw [if_pos h, hf]; rfl
  refine ⟨i, n, h1, h2, hE, ?_⟩
  unfold nodeR
  rw [if_pos hE]
  obtain ⟨m, hm2⟩ := fhas_some' hf
  have hmid : m.id = id := by
    unfold fhas eqAt at hf
    rw [hm2] at hf
    have : nodC id m = 0 := by simpa using hf
    unfold nodC at this
    exact cmpI_zero.1 this
  rw [hm2]
  show m = n
  rcases Nat.lt_trichotomy i (fpos g.nodes id) with hlt | heq | hgt
  · have := chain_lt2 hch hlt h2 hm2; omega
  · rw [← heq, h2] at hm2; injection hm2 with e; exact e.symm
  · have := chain_lt2 hch hgt hm2 h2; omega
theorem next_pos {g : Grf} (h : grfE g = 0) : 1 ≤ nextI g.nodes := by
  unfold nextI
  split
  · rename_i d hd
    have := ((grf_ok h).2.2.2 d (List.mem_of_getElem? hd)).1
    unfold idB at this
    simp at this
    omega
  · omega
theorem next_ok {g : Grf} (h : grfE g = 0) (hn : nextI g.nodes ≤ 1000) : nextE g = 0 ∧ nextN g = nextI g.nodes := by
  have h1 := next_pos h
  have h2 : nextE g = 0 := by
    unfold nextE
    rw [if_pos h, if_pos]
    unfold idB; simp [h1, hn]
  exact ⟨h2, by unfold nextN; rw [if_pos h2]⟩
theorem next_full {g : Grf} (h : grfE g = 0) (hn : 1000 < nextI g.nodes) : nextE g = 4 ∧ nextN g = 0 := by
  have h2 : nextE g = 4 := by
    unfold nextE
    rw [if_pos h, if_neg]
    unfold idB
    have : ¬ nextI g.nodes ≤ 1000 := by omega
    simp [this]
  exact ⟨h2, by unfold nextN; rw [if_neg (by rw [h2]; omega)]⟩
theorem next_bad {g : Grf} (h : grfE g ≠ 0) : nextE g = grfE g ∧ nextN g = 0 := by
  have h2 : nextE g = grfE g := by unfold nextE; rw [if_neg h]
  exact ⟨h2, by unfold nextN; rw [if_neg (by rw [h2]; exact h)]⟩
theorem node_bad {g : Grf} {id : Int} (h : grfE g ≠ 0) : nodeE g id = grfE g := by unfold nodeE; rw [if_neg h]
theorem nodeR_bad {g : Grf} {id : Int} (h : nodeE g id ≠ 0) : nodeR g id = zeroN := by unfold nodeR; rw [if_neg h]
theorem endsR_bad {g : Grf} {id : Int} (h : nodeE g id ≠ 0) (bond : ByteArray) (back : Bool) : endsR g id bond back = [] := by unfold endsR; rw [if_neg h]
theorem endsR_ok {g : Grf} {id : Int} (h : nodeE g id = 0) (bond : ByteArray) (back : Bool) : endsR g id bond back = endsS g id bond back := by unfold endsR; rw [if_pos h]
end Go.Proofs.YtpfpgmfdcafpnaaGreatDoor

/- Plain: all faults of a graph, step by step, as the document tells them. No condition. -/
namespace Go.Proofs.YtpfpgmfdcafpnaaGreatDoor
open Go Go.RowKit

/-- Each node is right by itself, its properties rise. -/
def NodsOk (l : List Nod) : Prop := ∀ n ∈ l, nodE n = 0 ∧ chain prpLt n.props = true
theorem nodsOk {g : Grf} (h : grfE g = 0) : NodsOk g.nodes := fun n hn => by
  have h1 := ((grf_ok h).2.2.2 n hn).2
  refine ⟨h1, ?_⟩
  unfold nodE at h1
  split at h1
  · simp at h1
  · split at h1
    · exact (rec_ok h1).2.2
    · rename_i h6; exact absurd h1 h6
theorem keys_of {s : Scm} {g : Grf} (hr : Right s.kinds) : ∀ (k : Nat) , NodsOk g.nodes → KeysOf s (g.nodes.take k) (nodesF s g (g.nodes.take k)).2
  | 0, _ => fun k => by simp [nodesF]
  | k + 1, h => by
    cases hd : g.nodes[k]? with
    | none =>
      have hl : g.nodes.length ≤ k := by rw [List.getElem?_eq_none_iff] at hd; exact hd
      have := keys_of hr k h
      rw [List.take_of_length_le hl] at this
      rw [List.take_of_length_le (by omega)]
      exact this
    | some n =>
      obtain ⟨h1, h2⟩ := h n (List.mem_of_getElem? hd)
      rw [take_snocF hd, nodesF_snoc]
      exact (rNode_eq hr h1 h2 (keys_of hr k h)).2
theorem nodes_step {s : Scm} {g : Grf} (hr : Right s.kinds) (h : NodsOk g.nodes) {k : Nat} {n : Nod} (hd : g.nodes[k]? = some n) :
    (nodesF s g (g.nodes.take (k + 1))).1 = (nodesF s g (g.nodes.take k)).1 ++ rNodeF s g (g.nodes.take k) n := by
  obtain ⟨h1, h2⟩ := h n (List.mem_of_getElem? hd)
  rw [take_snocF hd, nodesF_snoc, ← (rNode_eq hr h1 h2 (keys_of hr k h)).1]
theorem end_neg {s : Scm} {g : Grf} {id : Int} {asked : ByteArray} (h : grfE g = 0) (hn : rfI g.nodes id < 0) : endB s g id asked = false := by
  have h1 := rf_neg h hn
  unfold nodeE at h1
  rw [if_pos h] at h1
  unfold endB
  split
  · by_cases hf : fhas g.nodes id = true
    · rw [hf] at h1; simp at h1
    · simp [hf]
  · rfl
theorem end_at {s : Scm} {g : Grf} {id : Int} {asked : ByteArray} (h : grfE g = 0) {i : Nat} {n : Nod} (hi : rfI g.nodes id = i) (hn : g.nodes[i]? = some n) :
    endB s g id asked = (decide (0 ≤ kFind s.kinds n.kind) && isKinB s.kinds n.kind asked) := by
  obtain ⟨j, m, e1, e2, e3, e4⟩ := rf_pos h (by omega : 0 ≤ rfI g.nodes id)
  have : j = i := by omega
  subst this
  rw [hn] at e2
  injection e2 with e2; subst e2
  have hf : fhas g.nodes id = true := by
    unfold nodeE at e3
    rw [if_pos h] at e3
    by_cases hf : fhas g.nodes id = true
    · exact hf
    · simp [hf] at e3
  obtain ⟨m, hm⟩ := fhas_some' hf
  unfold nodeR at e4
  rw [if_pos e3, hm] at e4
  have e4 : m = n := e4
  unfold endB
  rw [hm]
  subst e4
  simp [hf]
end Go.Proofs.YtpfpgmfdcafpnaaGreatDoor
