/- Parts: As, Told, DTl, OpenG. -/
import Derived.Test.YtngbbefpphinjaaGreatDoorMg01
import Derived.Test.YtngbbefpphinjaaGreatDoorRows
import Derived.WalkKit
import Derived.LaidEql
import Derived.Stop.Asserts
import Derived.RowKitTokens
import Derived.Test.YtngbbefpphinjaaGreatDoorMg18
import Derived.Test.YtngbbefpphinjaaGreatDoorMg22
import Derived.Test.YtngbbefpphinjaaGreatDoorMg23
import Derived.Deep.DeepCutAuto
import Derived.Test.YtngbbefpphinjaaGreatDoorMg17
/- errors.As at a target of the program's own error type (a number): its contracts, turned from the guide's worked example. Conditions: the library's variable holds the handle of the type error. -/
namespace Go.Proofs.YtngbbefpphinjaaGreatDoor
open Go.RowKit Go.Extern.Stop Go.Stop Go.Extern

/-! ### CLOSED FACTS ON THE MODEL's ENTRIES FOR internal/reflectlite, at this program's types: 25: *p.E · 27: **p.E · 23: error · 45: reflectlite's rtype · 1: how many package-level variables the dump has -/
theorem as_valueOfP (t : Addr) (w : World) : (ReflectliteValue.unpack (.iface 192 (.pointer (some t)))).run Tryz.prog w
    = .ok (.agg #[.pointer (some ⟨2, 192, none⟩), .pointer (some ⟨w.heap.size, 0, none⟩), .int .u64 150]) (w.alloc (.cells #[.pointer (some t)] 192)) := by kernel_rfl
theorem as_typeP (a : Addr) (w : World) : (ReflectliteValue.methodAny (ReflectliteValue.valueError "reflectlite.Value.Type" 0) (fun t _ _ _ => ReflectliteType.toType t) #[.agg #[.pointer (some ⟨2, 192, none⟩), .pointer (some a), .int .u64 150]]).run Tryz.prog w
    = .ok (.iface 296 (.agg #[.pointer (some ⟨2, 192, none⟩)])) w := by kernel_rfl
theorem as_methodKind (h : Value) (w : World) : (Go.method 472 296 (.agg #[h]) "Kind").run Tryz.prog w = .ok (256, h) w := by kernel_rfl
theorem as_kindP (w : World) : ((ReflectliteType.abiMethod fun t => (fun a : Nat => Value.int IntKind.u8 (a : Int)) <$> Rtype.kind t) #[.pointer (some ⟨2, 192, none⟩)]).run Tryz.prog w = .ok (.int .u8 22) w := by kernel_rfl
theorem as_kindE (w : World) : ((ReflectliteType.abiMethod fun t => (fun a : Nat => Value.int IntKind.u8 (a : Int)) <$> Rtype.kind t) #[.pointer (some ⟨2, 122, none⟩)]).run Tryz.prog w = .ok (.int .u8 2) w := by kernel_rfl

/-! ### THE ENTRIES THAT READ OR WRITE MEMORY: laws with a premise on the cell (after Derived/Lib/ReflectliteSlice.lean's manner: each unfolding a lemma of its own, by rfl) -/
theorem rlm (z : Sem Value) (f : TypeId → Addr → Nat → Nat → Sem Value) (v : Value) :
    ReflectliteValue.method z f #[v] = (do match ← ReflectliteValue.parts v with | none => z | some (t, a, fl) => f t a fl (fl % 32)) := rfl
theorem as_partsP (a : Addr) (w : World) : (ReflectliteValue.parts (.agg #[.pointer (some ⟨2, 192, none⟩), .pointer (some a), .int .u64 150])).run Tryz.prog w = .ok (some (192, a, 150)) w := by kernel_rfl
/-- (Value).IsNil at the Value of a **p.E that is not nil. -/
theorem as_isNilP (a p : Addr) (W : World) (ha : W.cell? a = some (.pointer (some p))) :
    (ReflectliteValue.method (ReflectliteValue.valueError "reflectlite.Value.IsNil" 0) ReflectliteValue.isNil #[.agg #[.pointer (some ⟨2, 192, none⟩), .pointer (some a), .int .u64 150]]).run Tryz.prog W = .ok (.bool false) W := by
  rw [rlm]
  simp only [Sem.run_bind, as_partsP, Result.andThen]
  simp [ReflectliteValue.isNil, loadVar, isAgg, underlying, Tryz.underlying192, ha, Result.andThen]

theorem as_methodElem (h : Value) (w : World) : (Go.method 472 296 (.agg #[h]) "Elem").run Tryz.prog w = .ok (269, .agg #[h]) w := by kernel_rfl
theorem as_methodImplements (h : Value) (w : World) : (Go.method 472 296 (.agg #[h]) "Implements").run Tryz.prog w = .ok (270, .agg #[h]) w := by kernel_rfl
theorem as_methodAssignableTo (h : Value) (w : World) : (Go.method 472 296 (.agg #[h]) "AssignableTo").run Tryz.prog w = .ok (267, .agg #[h]) w := by kernel_rfl
theorem as_elemP (w : World) : (ReflectliteType.method ReflectliteType.elem #[.agg #[.pointer (some ⟨2, 192, none⟩)]]).run Tryz.prog w = .ok (.iface 296 (.agg #[.pointer (some ⟨2, 122, none⟩)])) w := by kernel_rfl
theorem as_implementsE (w : World) : (ReflectliteType.relation "Implements" ReflectliteType.implements_ #[.agg #[.pointer (some ⟨2, 122, none⟩)], .iface 296 (.agg #[.pointer (some ⟨2, 43, none⟩)])]).run Tryz.prog w = .ok (.bool true) w := by kernel_rfl
theorem as_typeOfE (v : Value) (w : World) : (ReflectliteType.typeOf #[.iface 122 v]).run Tryz.prog w = .ok (.iface 296 (.agg #[.pointer (some ⟨2, 122, none⟩)])) w := by kernel_rfl
theorem as_assignableE (w : World) : (ReflectliteType.relation "AssignableTo" ReflectliteType.assignableTo #[.agg #[.pointer (some ⟨2, 122, none⟩)], .iface 296 (.agg #[.pointer (some ⟨2, 122, none⟩)])]).run Tryz.prog w = .ok (.bool true) w := by kernel_rfl
theorem as_valueOfE (e : Int) (w : World) : (ReflectliteValue.unpack (.iface 122 (.int .i64 e))).run Tryz.prog w
    = .ok (.agg #[.pointer (some ⟨2, 122, none⟩), .pointer (some ⟨w.heap.size, 0, none⟩), .int .u64 130]) (w.alloc (.cells #[.int .i64 e] 122)) := by kernel_rfl

theorem as_elemOfP (w : World) : (Rtype.elem? 192).run Tryz.prog w = .ok (some 122) w := by kernel_rfl
theorem as_mkE (p : Addr) (w : World) : (ReflectliteValue.mk 122 p ReflectliteValue.flagAddr).run Tryz.prog w = .ok (.agg #[.pointer (some ⟨2, 122, none⟩), .pointer (some p), .int .u64 386]) w := by kernel_rfl
/-- (Value).Elem at the Value of a **p.E that is not nil: the Value of the *p.E variable that it points to, addressable. -/
theorem as_elemVP (a p : Addr) (W : World) (ha : W.cell? a = some (.pointer (some p))) :
    (ReflectliteValue.method (ReflectliteValue.valueError "reflectlite.Value.Elem" 0) ReflectliteValue.elem #[.agg #[.pointer (some ⟨2, 192, none⟩), .pointer (some a), .int .u64 150]]).run Tryz.prog W
      = .ok (.agg #[.pointer (some ⟨2, 122, none⟩), .pointer (some p), .int .u64 386]) W := by
  rw [rlm]
  simp only [Sem.run_bind, as_partsP, Result.andThen]
  simp [ReflectliteValue.elem, loadVar, isAgg, underlying, Tryz.underlying192, ha, Result.andThen, as_elemOfP, as_mkE]
theorem rls (v x : Value) : ReflectliteValue.set #[v, x] = (do
    let (some (dst, a, fl), some (src, b, _)) := (← ReflectliteValue.parts v, ← ReflectliteValue.parts x)
      | unsupported (.noEntry "extern/(internal/reflectlite.Value).Set.zeroValue")
    if fl / ReflectliteValue.flagAddr % 2 == 0 then unsupported (.noEntry "extern/(internal/reflectlite.Value).Set.unaddressable")
    let val ← loadVar src b
    if ← Rtype.directlyAssignable dst src then storeVar dst a val
    else if ← Rtype.implements dst src then
      if (← Rtype.kind src) == 20 then
        match val with
        | .nilIface => unsupported (.noEntry "extern/reflectlite: a nil value of one interface type handed on as a value of another")
        | _ => storeVar dst a val
      else storeVar dst a (.iface src val)
    else panicString ("reflectlite.Set: value of type " ++ (← Rtype.spelt src) ++ " is not assignable to type " ++ (← Rtype.spelt dst))
    pure (.tuple #[])) := rfl
theorem as_partsEa (a : Addr) (w : World) : (ReflectliteValue.parts (.agg #[.pointer (some ⟨2, 122, none⟩), .pointer (some a), .int .u64 386])).run Tryz.prog w = .ok (some (122, a, 386)) w := by kernel_rfl
theorem as_partsE (a : Addr) (w : World) : (ReflectliteValue.parts (.agg #[.pointer (some ⟨2, 122, none⟩), .pointer (some a), .int .u64 130])).run Tryz.prog w = .ok (some (122, a, 130)) w := by kernel_rfl
theorem as_directE (w : World) : (Rtype.directlyAssignable 122 122).run Tryz.prog w = .ok true w := by kernel_rfl
/-- (Value).Set: the *p.E variable at 'ta' gets what the Value's own variable 'b' holds. -/
theorem as_setE (ta b : Addr) (e : Int) (old : Value) (W : World) (hb : W.cell? b = some (.int .i64 e)) (ht : W.cell? ta = some old) (hf : W.frozen? ta = false) :
    (ReflectliteValue.set #[.agg #[.pointer (some ⟨2, 122, none⟩), .pointer (some ta), .int .u64 386], .agg #[.pointer (some ⟨2, 122, none⟩), .pointer (some b), .int .u64 130]]).run Tryz.prog W
      = .ok (.tuple #[]) (W.setCell ta (.int .i64 e)) := by
  rw [rls]
  simp only [Sem.run_bind, as_partsEa, as_partsE, Result.andThen]
  simp [ReflectliteValue.flagAddr, loadVar, isAgg, underlying, Tryz.underlying122, hb, Result.andThen, as_directE, storeVar, Value.cells, storeCells, Addr.add]
  rw [run_store Tryz.prog W ta _ _ (by rfl)]
  simp [ht, hf]

set_option maxRecDepth 100000 in
set_option maxHeartbeats 4000000 in
theorem as_hit (e : Int) (t : Addr) (old : Value) (w : World) (hg : w.cell? ⟨0, 0, none⟩ = some (.iface 296 (.agg #[.pointer (some ⟨2, 43, none⟩)]))) (ht0 : w.cell? t = some old) (hf0 : w.frozen? t = false) :
    Calls Tryz.prog 111 #[.iface 122 (.int .i64 e), .iface 192 (.pointer (some t))] w fun ev w' => ev = .returned (.bool true) ∧ w' = ((((w.alloc (.cells #[.pointer (some t)] 192)).alloc (.cells #[.pointer (some ⟨2, 192, none⟩), .pointer (some ⟨w.heap.size, 0, none⟩), .int .u64 150] 247)).alloc (.cells #[.pointer (some ⟨2, 192, none⟩), .pointer (some ⟨w.heap.size, 0, none⟩), .int .u64 150] 247)).alloc (.cells #[.int .i64 e] 122)).setCell t (.int .i64 e) := by
  have h6 := @run_callFunc_extern Tryz.prog 164 _ (fun args => ReflectliteValue.unpack (args.getD 0 (.tuple #[]))) Tryz.func164 (by kernel_rfl) (by kernel_rfl) (by kernel_rfl) (by kernel_rfl)
  have h7 := @run_callFunc_extern Tryz.prog 165 _ (ReflectliteValue.methodAny (ReflectliteValue.valueError "reflectlite.Value.Type" 0) (fun t _ _ _ => ReflectliteType.toType t)) Tryz.func165 (by kernel_rfl) (by kernel_rfl) (by kernel_rfl) (by kernel_rfl)
  have h8 := @run_callFunc_extern Tryz.prog 166 _ (ReflectliteValue.method (ReflectliteValue.valueError "reflectlite.Value.IsNil" 0) ReflectliteValue.isNil) Tryz.func166 (by kernel_rfl) (by kernel_rfl) (by kernel_rfl) (by kernel_rfl)
  have h27 := @run_callFunc_extern Tryz.prog 256 _ (ReflectliteType.abiMethod fun t => do pure (.int .u8 (← Rtype.kind t))) Tryz.func256 (by kernel_rfl) (by kernel_rfl) (by kernel_rfl) (by kernel_rfl)
  have h37 := @run_callFunc_extern Tryz.prog 269 _ (ReflectliteType.method ReflectliteType.elem) Tryz.func269 (by kernel_rfl) (by kernel_rfl) (by kernel_rfl) (by kernel_rfl)
  have h38 := @run_callFunc_extern Tryz.prog 270 _ (ReflectliteType.relation "Implements" ReflectliteType.implements_) Tryz.func270 (by kernel_rfl) (by kernel_rfl) (by kernel_rfl) (by kernel_rfl)
  have h10 := @run_callFunc_extern Tryz.prog 205 _ ReflectliteType.typeOf Tryz.func205 (by kernel_rfl) (by kernel_rfl) (by kernel_rfl) (by kernel_rfl)
  have h35 := @run_callFunc_extern Tryz.prog 267 _ (ReflectliteType.relation "AssignableTo" ReflectliteType.assignableTo) Tryz.func267 (by kernel_rfl) (by kernel_rfl) (by kernel_rfl) (by kernel_rfl)
  have h11 := @run_callFunc_extern Tryz.prog 206 _ (ReflectliteValue.method (ReflectliteValue.valueError "reflectlite.Value.Elem" 0) ReflectliteValue.elem) Tryz.func206 (by kernel_rfl) (by kernel_rfl) (by kernel_rfl) (by kernel_rfl)
  have h12 := @run_callFunc_extern Tryz.prog 207 _ ReflectliteValue.set Tryz.func207 (by kernel_rfl) (by kernel_rfl) (by kernel_rfl) (by kernel_rfl)
  have tO := as_typeOfE
  have mA := as_methodAssignableTo
  have a25 := as_assignableE
  have v25 := as_valueOfE
  have f6 := as_valueOfP
  have f7 := as_typeP
  have mK := as_methodKind
  have mE := as_methodElem
  have mI := as_methodImplements
  have k27 := as_kindP
  have k25 := as_kindE
  have e27 := as_elemP
  have i25 := as_implementsE
  have n8 := as_isNilP ⟨w.heap.size, 0, none⟩ t ((w.alloc (.cells #[.pointer (some t)] 192)).alloc (.cells #[.pointer (some ⟨2, 192, none⟩), .pointer (some ⟨w.heap.size, 0, none⟩), .int .u64 150] 247)) (by simp)
  have hlt : 0 < w.heap.size := World.block_lt_of_cell? _ _ hg
  have hg2 : ((w.alloc (.cells #[.pointer (some t)] 192)).alloc (.cells #[.pointer (some ⟨2, 192, none⟩), .pointer (some ⟨w.heap.size, 0, none⟩), .int .u64 150] 247)).cell? ⟨0, 0, none⟩ = some (.iface 296 (.agg #[.pointer (some ⟨2, 43, none⟩)])) := by
    rw [World.cell?_alloc_lt _ _ ⟨0, 0, none⟩ (by simp only [World.size_alloc]; omega), World.cell?_alloc_lt _ _ ⟨0, 0, none⟩ hlt]; exact hg
  have htl : t.block < w.heap.size := by
    rcases Nat.lt_or_ge t.block w.heap.size with h | h
    · exact h
    · simp [World.cell?, Array.getElem?_eq_none h] at ht0
  have el := as_elemVP ⟨w.heap.size, 0, none⟩ t (((w.alloc (.cells #[.pointer (some t)] 192)).alloc (.cells #[.pointer (some ⟨2, 192, none⟩), .pointer (some ⟨w.heap.size, 0, none⟩), .int .u64 150] 247)).alloc (.cells #[.pointer (some ⟨2, 192, none⟩), .pointer (some ⟨w.heap.size, 0, none⟩), .int .u64 150] 247)) (by rw [World.cell?_alloc_lt _ _ ⟨w.heap.size, 0, none⟩ (by simp; omega)]; simp)
  have st := as_setE t ⟨w.heap.size + 1 + 1 + 1, 0, none⟩ e old ((((w.alloc (.cells #[.pointer (some t)] 192)).alloc (.cells #[.pointer (some ⟨2, 192, none⟩), .pointer (some ⟨w.heap.size, 0, none⟩), .int .u64 150] 247)).alloc (.cells #[.pointer (some ⟨2, 192, none⟩), .pointer (some ⟨w.heap.size, 0, none⟩), .int .u64 150] 247)).alloc (.cells #[.int .i64 e] 122))
    (by rw [World.cell?_alloc_at _ _ _ _ (by simp)]; rfl)
    (by rw [World.cell?_alloc_lt _ _ t (by simp; omega), World.cell?_alloc_lt _ _ t (by simp; omega), World.cell?_alloc_lt _ _ t (by simp; omega), World.cell?_alloc_lt _ _ t htl]; exact ht0)
    (by rw [World.frozen?_alloc_old _ _ t (by simp; omega), World.frozen?_alloc_old _ _ t (by simp; omega), World.frozen?_alloc_old _ _ t (by simp; omega), World.frozen?_alloc_old _ _ t (Nat.ne_of_lt htl)]; exact hf0)
  go_enter Tryz.func111, Tryz.ntmps111
  go_wp2
  refine wp_loop_rounds 1 ?_
  rw [rounds_succ]
  go_wp2
  go_ret
  exact ⟨rfl, rfl⟩
end Go.Proofs.YtngbbefpphinjaaGreatDoor

/- Contracts: plain.Told, kinsame.Error. Conditions: the library's variable holds the handle of the type error. -/
namespace Go.Proofs.YtngbbefpphinjaaGreatDoor
open Go Go.RowKit

/-- The library's variable holds the handle of the type error. -/
def GlobOk (w : World) : Prop := w.cell? ⟨0, 0, none⟩ = some (.iface 296 (.agg #[.pointer (some ⟨2, 43, none⟩)]))
theorem GlobOk.below {w w' : World} (hb : Below w.heap.size w w') (h : GlobOk w) : GlobOk w' := cell_below hb h
theorem below_al {w w' : World} (h : Below w.heap.size w w') (o : Obj) : Below w.heap.size w (w'.alloc o) := h.alloc h.size o
set_option maxHeartbeats 1000000 in
theorem told_any (k : Int) (w : World) (hg : GlobOk w) : Calls Tryz.prog 51 #[errV k] w fun e w' => e = .returned (.int .i64 k) ∧ Below w.heap.size w w' := by
  by_cases hk : k = 0
  · subst hk
    rw [errV_zero rfl]
    go_enter Tryz.func51, Tryz.ntmps51
    go_wp2_with fail
    go_ret
    exact ⟨rfl, Below.refl _ _⟩
  · rw [errV_some hk]
    clear hk
    have hb0 : Below w.heap.size w (w.alloc (.cells #[.int .i64 0] 122)) := (Below.refl _ _).alloc (Nat.le_refl _) _
    have h1 := as_hit k ⟨w.heap.size, 0, none⟩ (.int .i64 0) (w.alloc (.cells #[.int .i64 0] 122)) (hg.below hb0) (by rw [World.cell?_alloc_at _ _ _ _ rfl]; rfl) (by simp)
    clear hg
    go_enter Tryz.func51, Tryz.ntmps51
    go_wp2_with fail
    refine h1.mono ?_
    clear h1
    rintro e w' ⟨rfl, rfl⟩
    go_wp2_with fail
    go_ret
    refine ⟨rfl, ?_⟩
    exact below_al (below_al (below_al (below_al (below_al (Below.refl _ _) _) _) _) _) _
theorem same_any (k n : Int) (w : World) (hg : GlobOk w) : Calls Tryz.prog 10 #[errV k, .int .i64 n] w fun e w' => e = .returned (.bool (k == n)) ∧ Below w.heap.size w w' := by
  have h1 := told_any k w hg
  generalize errV k = v at *
  clear hg
  go_enter Tryz.func10, Tryz.ntmps10
  go_wp2_with fail
  refine h1.mono ?_
  clear h1
  rintro e w' ⟨rfl, hb⟩
  go_wp2_with fail
  go_ret
  exact ⟨rfl, hb⟩
end Go.Proofs.YtngbbefpphinjaaGreatDoor

/- Contract: the law DeltaTells answers true. -/
namespace Go.Proofs.YtngbbefpphinjaaGreatDoor
open Go Go.RowKit

theorem BoxS.below {w0 w wx wy : World} {b : Nat} {g : Grf} (h : BoxS w0 w b g wx) (hb : Below wx.heap.size wx wy) : BoxS w0 w b g wy := by
  obtain ⟨vn, vt, h1, h2, h3, h4⟩ := h
  exact ⟨vn, vt, (hb.block _ (Array.getElem?_eq_some_iff.1 h1).1).trans h1, h2.stay fun _ hW => hW.from hb, h3, h4.trans (hb.mono h4.size)⟩
/-- Another graph's box is written: this one stays. -/
theorem BoxS.other {w0 w wx : World} {b c i : Nat} {g : Grf} {cs : Array Value} {fr : Nat × Nat} {u : Value} (h : BoxS w0 w b g wx) (hc : wx.heap[c]? = some (.cells cs 25 fr)) (hne : b ≠ c) (hw : w.heap.size ≤ c) : BoxS w0 w b g (wx.setCell ⟨c, i, none⟩ u) := by
  obtain ⟨vn, vt, h1, h2, h3, h4⟩ := h
  exact ⟨vn, vt, by rw [Below.heap_setCell _ _ _ _ (by show b ≠ c; exact hne)]; exact h1, h2.set hc, h3, h4.setCell (p := ⟨c, i, none⟩) hw _⟩
theorem dallE_parts {g : Grf} {l : List Opr} (h : dallE g l = 0) : grfE g = 0 ∧ allE g l = 0 := by
  unfold dallE at h
  split at h
  · simp at h
  · split at h
    · rename_i h1 h2; exact ⟨h2, h⟩
    · rename_i _ h2; exact absurd h h2
/-- A graph in a box, whoever owns it. -/
def BoxG (w : World) (b : Nat) (g : Grf) (wx : World) : Prop := ∃ vn vt, wx.heap[b]? = some (.cells #[vn, vt] 25 (0, 0)) ∧ GrfR wx vn vt g ∧ w.heap.size ≤ b ∧ Below w.heap.size w wx
theorem BoxG.below {w wx wy : World} {b : Nat} {g : Grf} (h : BoxG w b g wx) (hb : Below wx.heap.size wx wy) : BoxG w b g wy := by
  obtain ⟨vn, vt, h1, h2, h3, h4⟩ := h
  exact ⟨vn, vt, (hb.block _ (Array.getElem?_eq_some_iff.1 h1).1).trans h1, h2.below hb, h3, h4.trans (hb.mono h4.size)⟩
theorem BoxG.new {w w3 : World} {g : Grf} {vn vt : Value} (h : Below w.heap.size w w3) (hr : GrfR w3 vn vt g) : BoxG w w3.heap.size g (w3.alloc (.cells #[vn, vt] 25)) :=
  ⟨vn, vt, heap_alloc_new _ _, hr.below ((Below.refl _ _).alloc (Nat.le_refl _) _), h.size, h.alloc h.size _⟩
theorem BoxG.soon {w w3 : World} {g : Grf} {vn vt c0 c1 : Value} {b B : Nat} {xs : List Value} (h : Below w.heap.size w w3) (hb : w.heap.size ≤ b) (hq : w3.heap[b]? = some (.cells #[c0, c1] 25 (0, 0))) (ho : OwnG w3 B vn vt g xs) :
    BoxG w b g ((w3.setCell ⟨b, 0, none⟩ vn).setCell ⟨b, 1, none⟩ vt) := by
  have hS : ∀ T, 25 ≠ T → Same T w3 ((w3.setCell ⟨b, 0, none⟩ vn).setCell ⟨b, 1, none⟩ vt) := fun T hT => (Same.setCell (p := ⟨b, 0, none⟩) hq hT _).trans (Same.setCell (p := ⟨b, 1, none⟩) (setCell_block hq 0 _) hT _)
  exact ⟨vn, vt, setCell_block (setCell_block hq 0 vn) 1 vt, (ho.same (hS _ (by decide)) (hS _ (by decide)) (hS _ (by decide))).r, hb, (h.setCell (p := ⟨b, 0, none⟩) hb _).setCell (p := ⟨b, 1, none⟩) hb _⟩
set_option maxRecDepth 100000 in
set_option maxHeartbeats 32000000 in
theorem deltaTells_any (g : Grf) (o : Opr) (l : List Opr) (h : Grf) (vn vt vr vl kn kt : Value) (w : World) (hg : GlobOk w) (h1 : GrfR w vn vt g) (h2 : OprR w vr o) (h3 : Sl oprL w vl l) (h4 : GrfR w kn kt h) :
    Calls Tryz.prog 3 #[.agg #[vn, vt], .agg (oprCells o vr), vl, .agg #[kn, kt]] w fun e w' => e = .returned (.bool true) ∧ Below w.heap.size w w' := by
  obtain ⟨A1, c1, rfl, _, _⟩ := h1.1.form
  obtain ⟨A2, c2, rfl, _, _⟩ := h1.2.form
  obtain ⟨A3, c3, rfl, _, _⟩ := h4.1.form
  obtain ⟨A4, c4, rfl, _, _⟩ := h4.2.form
  obtain ⟨A5, c5, rfl, _, _⟩ := h3.form
  obtain ⟨A6, c6, hvr, _, _⟩ := h2.r.form
  obtain ⟨what, node, prop, tie⟩ := o
  have hvr : vr = .slice A6 node.props.length c6 := hvr
  subst hvr
  obtain ⟨w0, hw0⟩ : ∃ w0, w0 = ((w.alloc (.cells #[.slice A1 g.nodes.length c1, .slice A2 g.ties.length c2] 25)).alloc (.cells (oprCells ⟨what, node, prop, tie⟩ (.slice A6 node.props.length c6)) 37)).alloc (.cells #[.slice A3 h.nodes.length c3, .slice A4 h.ties.length c4] 25) := ⟨_, rfl⟩
  have hb0 : Below w.heap.size w w0 := by rw [hw0]; exact (((Below.refl _ _).alloc (Nat.le_refl _) _).alloc (by simp) _).alloc (by simp; omega) _
  have g0 : w0.heap[w.heap.size]? = some (.cells #[.slice A1 g.nodes.length c1, .slice A2 g.ties.length c2] 25 (0, 0)) := by
    rw [hw0, Below.heap_alloc _ _ _ (by simp; omega), Below.heap_alloc _ _ _ (by simp)]; exact heap_alloc_new _ _
  have g1 : w0.heap[w.heap.size + 1]? = some (.cells (oprCells ⟨what, node, prop, tie⟩ (.slice A6 node.props.length c6)) 37 (0, 0)) := by
    have := heap_alloc_new (w.alloc (.cells #[.slice A1 g.nodes.length c1, .slice A2 g.ties.length c2] 25)) (.cells (oprCells ⟨what, node, prop, tie⟩ (.slice A6 node.props.length c6)) 37); rw [hw0, Below.heap_alloc _ _ _ (by simp)]; simpa using this
  have g2 : w0.heap[w.heap.size + 1 + 1]? = some (.cells #[.slice A3 h.nodes.length c3, .slice A4 h.ties.length c4] 25 (0, 0)) := by
    have := heap_alloc_new ((w.alloc (.cells #[.slice A1 g.nodes.length c1, .slice A2 g.ties.length c2] 25)).alloc (.cells (oprCells ⟨what, node, prop, tie⟩ (.slice A6 node.props.length c6)) 37)) (.cells #[.slice A3 h.nodes.length c3, .slice A4 h.ties.length c4] 25); rw [hw0]; simpa using this
  have hw0' := hw0.symm
  have HC := Lib.hid (And.intro (block_cell g0 0) (And.intro (block_cell g0 1) (And.intro (block_cell g2 0) (block_cell g2 1))))
  have HO : Hid (w0.heap[w.heap.size + 1]? = some (.cells #[.int .i64 what, .int .i64 node.id, .string node.kind, .slice A6 node.props.length c6, .string prop.name, .int .i64 prop.v.ty, .int .i64 prop.v.n, .string prop.v.s, .string tie.bond, .int .i64 tie.src, .int .i64 tie.dst] 37 (0, 0))) := g1
  have H1 := Lib.hid (h1.below hb0)
  have H2 := Lib.hid h2
  have H3 := Lib.hid (h3.below hb0)
  have H4 := Lib.hid (h4.below hb0)
  have HRG : Hid (∀ W, Below w0.heap.size w0 W → Calls Tryz.prog 7 #[.agg #[.slice A1 g.nodes.length c1, .slice A2 g.ties.length c2]] W fun e w' => e = .returned (.int .i64 (grfE g)) ∧ Below W.heap.size W w') := fun W hW => rgraph_any g _ _ W (H1.out.below hW)
  have HRH : Hid (∀ W, Below w0.heap.size w0 W → Calls Tryz.prog 7 #[.agg #[.slice A3 h.nodes.length c3, .slice A4 h.ties.length c4]] W fun e w' => e = .returned (.int .i64 (grfE h)) ∧ Below W.heap.size W w') := fun W hW => rgraph_any h _ _ W (H4.out.below hW)
  have HRD : Hid (grfE g = 0 → ∀ W, Below w0.heap.size w0 W → Calls Tryz.prog 8 #[.agg #[.slice A1 g.nodes.length c1, .slice A2 g.ties.length c2], .agg #[.int .i64 what, .int .i64 node.id, .string node.kind, .slice A6 node.props.length c6, .string prop.name, .int .i64 prop.v.ty, .int .i64 prop.v.n, .string prop.v.s, .string tie.bond, .int .i64 tie.src, .int .i64 tie.dst]] W (RetGI w (doG g ⟨what, node, prop, tie⟩) (doE g ⟨what, node, prop, tie⟩) W)) := fun hz W hW =>
    rdo_any g ⟨what, node, prop, tie⟩ _ _ (.slice A6 node.props.length c6) w W (hb0.trans (hW.mono hb0.size)) (GrfR.s h1) H2.out hz
  have HDO : Hid (∀ W, Below w0.heap.size w0 W → Calls Tryz.prog 9 #[.agg #[.slice A1 g.nodes.length c1, .slice A2 g.ties.length c2], .agg #[.int .i64 what, .int .i64 node.id, .string node.kind, .slice A6 node.props.length c6, .string prop.name, .int .i64 prop.v.ty, .int .i64 prop.v.n, .string prop.v.s, .string tie.bond, .int .i64 tie.src, .int .i64 tie.dst]] W (RetG (doG g ⟨what, node, prop, tie⟩) (doE g ⟨what, node, prop, tie⟩) W)) := fun W hW =>
    Do_any g ⟨what, node, prop, tie⟩ _ _ (.slice A6 node.props.length c6) W (H1.out.below hW) (H2.out.below (hb0.trans (hW.mono hb0.size)))
  have HRA : Hid (∀ W, Below w0.heap.size w0 W → Calls Tryz.prog 12 #[.agg #[.slice A1 g.nodes.length c1, .slice A2 g.ties.length c2], .slice A5 l.length c5] W (RetAI w (dallG g l) (dallI g l) (dallE g l) W)) := fun W hW => rall_any g l _ _ _ w W (hb0.trans (hW.mono hb0.size)) h1 h3
  have HDA : Hid (∀ W, Below w0.heap.size w0 W → Calls Tryz.prog 13 #[.agg #[.slice A1 g.nodes.length c1, .slice A2 g.ties.length c2], .slice A5 l.length c5] W (RetAO (dallG g l) (dallI g l) (dallE g l) W)) := fun W hW => dall_own g l _ _ _ W (H1.out.below hW) (H3.out.below hW)
  have HRF : Hid (dallE g l = 0 → ∀ (un ut : Value) W, Below w0.heap.size w0 W → GrfR W un ut (dallG g l) → Calls Tryz.prog 14 #[.agg #[un, ut], .agg #[.slice A1 g.nodes.length c1, .slice A2 g.ties.length c2]] W fun e w' => ∃ v, e = .returned v ∧ Sl oprL w' v (turnR g l) ∧ Below W.heap.size W w') := fun hz un ut W hW hu => by
    obtain ⟨p2, p3⟩ := dallE_parts hz
    have hG : dallG g l = allG g l := by unfold dallG; rw [if_pos hz]
    have hr : grfE (dallG g l) = 0 := by rw [hG]; exact all_right p2 p3
    have : turnR g l = diffL (dallG g l) g := by unfold turnR; rw [if_pos hz]
    rw [this]
    exact rdiff_any (dallG g l) g un ut _ _ W hu (H1.out.below hW) hr p2
  have HTU : Hid (∀ W, Below w0.heap.size w0 W → Calls Tryz.prog 15 #[.agg #[.slice A1 g.nodes.length c1, .slice A2 g.ties.length c2], .slice A5 l.length c5] W (RetOps (turnR g l) (dallE g l) W)) := fun W hW => turn_ops g l _ _ _ W (H1.out.below hW) (H3.out.below hW)
  have HRF2 : Hid (diffE g h = 0 → ∀ W, Below w0.heap.size w0 W → Calls Tryz.prog 14 #[.agg #[.slice A1 g.nodes.length c1, .slice A2 g.ties.length c2], .agg #[.slice A3 h.nodes.length c3, .slice A4 h.ties.length c4]] W fun e w' => ∃ v, e = .returned v ∧ Sl oprL w' v (diffR g h) ∧ Below W.heap.size W w') := fun hz W hW => by
    obtain ⟨p1, p2⟩ := diffE_zero hz
    have : diffR g h = diffL g h := by unfold diffR; rw [if_pos hz]
    rw [this]
    exact rdiff_any g h _ _ _ _ W (H1.out.below hW) (H4.out.below hW) p1 p2
  have HDF : Hid (∀ W, Below w0.heap.size w0 W → Calls Tryz.prog 17 #[.agg #[.slice A1 g.nodes.length c1, .slice A2 g.ties.length c2], .agg #[.slice A3 h.nodes.length c3, .slice A4 h.ties.length c4]] W (RetOps (diffR g h) (diffE g h) W)) := fun W hW => diff_ops g h _ _ _ _ W (H1.out.below hW) (H4.out.below hW)
  have PD : Hid (grfE g ≠ 0 → doE g ⟨what, node, prop, tie⟩ = grfE g ∧ doG g ⟨what, node, prop, tie⟩ = ⟨[], []⟩) := fun hz => by
    have e : doE g ⟨what, node, prop, tie⟩ = grfE g := by unfold doE; rw [if_neg hz]
    exact ⟨e, by unfold doG; rw [if_neg (by rw [e]; exact hz)]⟩
  have PT : Hid (dallE g l ≠ 0 → turnR g l = []) := fun hz => by unfold turnR; rw [if_neg hz]
  have PF : Hid (diffE g h = if grfE g = 0 then grfE h else grfE g) := rfl
  have PR : Hid (diffE g h ≠ 0 → diffR g h = []) := fun hz => by unfold diffR; rw [if_neg hz]
  generalize doE g ⟨what, node, prop, tie⟩ = de at *
  generalize doG g ⟨what, node, prop, tie⟩ = dG at *
  generalize dallE g l = ae at *
  generalize dallG g l = aG at *
  generalize dallI g l = ai at *
  generalize turnR g l = tr at *
  generalize diffE g h = fe at *
  generalize diffR g h = fr at *
  generalize grfE g = z at *
  generalize grfE h = zh at *
  have x0 := block_cell g0 0
  have x1 := block_cell g0 1
  have hrg := HRG.out w0 (Below.refl _ _)
  clear h1 h2 h3 h4 g0 g1 g2 hw0 H2
  go_enter Tryz.func3, Tryz.ntmps3
  go_wp2_with fail
  clear hw0'
  refine hrg.mono ?_
  clear hrg x0 x1
  rintro e w1 ⟨rfl, hb1⟩
  have hbw := hb1.size
  go_upto_region 4 with fail
  have hbz : Below w1.heap.size w1 (w1.alloc (.cells #[.slice none 0 0, .slice none 0 0] 25)) := (Below.refl _ _).alloc (Nat.le_refl _) _
  have hgz := heap_alloc_new w1 (.cells #[.slice none 0 0, .slice none 0 0] 25)
  generalize w1.alloc (.cells #[.slice none 0 0, .slice none 0 0] 25) = w2 at *
  have hb2 := hb1.trans (hbz.mono hbw)
  -- the graphs' cells: hb2: above w0
  have x0 := cell_below (hb2) HC.out.1
  have x1 := cell_below (hb2) HC.out.2.1
  go_upto_if 31 with fail
  go_cut [10] (fun f wx => f = .int .i64 de ∧ BoxS w w1 w1.heap.size dG wx)
  case first =>
    by_cases hz : z = 0
    case neg =>
      have hzb : (z == 0) = false := by simpa using hz
      obtain ⟨hde, hdg⟩ := PD.out hz
      have HN := Lib.hid hde
      have HB : Hid (BoxS w w1 w1.heap.size dG w2) := ⟨_, _, hgz, by rw [hdg]; exact ⟨SlS.nil _ _, SlS.nil _ _⟩, Nat.le_refl _, hbz⟩
      clear hz hde hdg x0 x1
      go_wp2_with fail
      go_meet
      exact ⟨by rw [HN.out], HB.out⟩
    have hzb : (z == 0) = true := by simpa using hz
    have hx := HRD.out hz w2 hb2
    have hbo := (hb2.block _ (Array.getElem?_eq_some_iff.1 HO.out).1).trans HO.out
    have p0 := block_cell hbo 0
    have p1 := block_cell hbo 1
    have p2 := block_cell hbo 2
    have p3 := block_cell hbo 3
    have p4 := block_cell hbo 4
    have p5 := block_cell hbo 5
    have p6 := block_cell hbo 6
    have p7 := block_cell hbo 7
    have p8 := block_cell hbo 8
    have p9 := block_cell hbo 9
    have pa := block_cell hbo 10
    clear hz hbo
    go_wp2_with fail
    refine hx.mono ?_
    clear hx x0 x1 p0 p1 p2 p3 p4 p5 p6 p7 p8 p9 pa
    rintro e w3 ⟨un, ut, rfl, hu, hq3⟩
    obtain ⟨Au, cu, _, hvu, _, _, _⟩ := hu.1
    subst hvu
    obtain ⟨At, ct, _, hvt, _, _, _⟩ := hu.2
    subst hvt
    have hgz3 := (hq3.block _ (Array.getElem?_eq_some_iff.1 hgz).1).trans hgz
    have HB := Lib.hid (BoxS.soon (w := w1) (hbz.trans (hq3.mono hbz.size)) (Nat.le_refl _) hgz3 hu)
    have m0 := block_cell hgz3 0
    have m1 := block_cell hgz3 1
    have f0 := block_free hgz3 0
    have f1 := block_free hgz3 1
    clear hu hgz3 hq3
    go_wp2_with fail
    go_meet
    exact ⟨rfl, HB.out⟩
  case rest =>
  obtain ⟨w3, hw3⟩ : ∃ x : World, x = wc := ⟨_, rfl⟩
  subst hw3
  obtain ⟨rfl, hBW⟩ := hcut
  have HW := Lib.hid hBW
  obtain ⟨_, _, _, _, _, hq3⟩ := hBW
  have hb3 := hb1.trans (hq3.mono hbw)
  clear hgz hbz hq3 PD HRD
  -- the graphs' cells: hb3: above w0
  have x0 := cell_below (hb3) HC.out.1
  have x1 := cell_below (hb3) HC.out.2.1
  have hbo := (hb3.block _ (Array.getElem?_eq_some_iff.1 HO.out).1).trans HO.out
  have p0 := block_cell hbo 0
  have p1 := block_cell hbo 1
  have p2 := block_cell hbo 2
  have p3 := block_cell hbo 3
  have p4 := block_cell hbo 4
  have p5 := block_cell hbo 5
  have p6 := block_cell hbo 6
  have p7 := block_cell hbo 7
  have p8 := block_cell hbo 8
  have p9 := block_cell hbo 9
  have pa := block_cell hbo 10
  have hx := HDO.out w3 hb3
  clear hbo HO HDO
  go_wp2_with fail
  refine hx.mono ?_
  clear hx x0 x1 p0 p1 p2 p3 p4 p5 p6 p7 p8 p9 pa
  rintro e w4 ⟨un, ut, rfl, hu, hq4⟩
  obtain ⟨Au, cu, rfl, _, _⟩ := hu.1.form
  obtain ⟨At, ct, rfl, _, _⟩ := hu.2.form
  have hb4 := hb3.trans (hq4.mono hb3.size)
  have HW4 := Lib.hid (HW.out.below hq4)
  have HU := Lib.hid hu
  clear hu HW
  go_upto_region 7 with fail
  have HG5 := Lib.hid (BoxG.new (Below.refl w4.heap.size w4) HU.out)
  have hbz : Below w4.heap.size w4 (w4.alloc (.cells #[.slice Au dG.nodes.length cu, .slice At dG.ties.length ct] 25)) := (Below.refl _ _).alloc (Nat.le_refl _) _
  have hbg : w1.heap.size + 1 ≤ w4.heap.size := by
    obtain ⟨_, _, h1, _⟩ := HW4.out
    have := (Array.getElem?_eq_some_iff.1 h1).1
    omega
  generalize w4.alloc (.cells #[.slice Au dG.nodes.length cu, .slice At dG.ties.length ct] 25) = w5 at *
  have hb5 := hb4.trans (hbz.mono hb4.size)
  have HW5 := Lib.hid (HW4.out.below hbz)
  clear HW4 HU hbz hb4 hq4 hb3
  -- the error is the one told: de: the number; w5: the world; hb5: it is above w0; w6: the world then; hq6: its fact's name
  have hx := same_any de de w5 (hg.below (hb0.trans ((hb5).mono hb0.size)))
  rw [beq_self_eq_true] at hx
  go_wp2_with fail
  refine hx.mono ?_
  clear hx
  rintro e w6 ⟨rfl, hq6⟩
  have hb6 := hb5.trans (hq6.mono hb5.size)
  have HW6 := Lib.hid (HW5.out.below hq6)
  have HG6 := Lib.hid (HG5.out.below hq6)
  clear HW5 HG5 hq6 hb5
  obtain ⟨k1, k2, e1, e2, e3, e4⟩ := HW6.out
  obtain ⟨k3, k4, e5, e6, e7, e8⟩ := HG6.out
  have hk1 := e2.r (hb0.trans (hb6.mono hb0.size))
  have hx := sgraph_any dG dG _ _ _ _ w6 e6 hk1
  rw [decide_eq_true rfl] at hx
  obtain ⟨B1, d1, rfl, _, _⟩ := hk1.1.form
  obtain ⟨B2, d2, rfl, _, _⟩ := hk1.2.form
  obtain ⟨B3, d3, rfl, _, _⟩ := e6.1.form
  obtain ⟨B4, d4, rfl, _, _⟩ := e6.2.form
  have m0 := block_cell e1 0
  have m1 := block_cell e1 1
  have n0 := block_cell e5 0
  have n1 := block_cell e5 1
  clear e1 e2 e3 e4 e5 e6 e7 e8 hk1
  go_wp2_with fail
  refine hx.mono ?_
  clear hx m0 m1 n0 n1
  rintro e w7 ⟨rfl, hq7⟩
  have hb7 := hb6.trans (hq7.mono hb6.size)
  have HW7 := Lib.hid (HW6.out.below hq7)
  have HG7 := Lib.hid (HG6.out.below hq7)
  clear HW6 HG6 hq7 hb6
  -- the graphs' cells: hb7: above w0
  have x0 := cell_below (hb7) HC.out.1
  have x1 := cell_below (hb7) HC.out.2.1
  have hx := HRA.out w7 hb7
  clear HRA
  go_wp2_with fail
  refine hx.mono ?_
  clear hx x0 x1
  rintro e w8 ⟨un, ut, rfl, hu, hq8⟩
  obtain ⟨Au, cu, _, hvu, _, _, _⟩ := hu.1
  subst hvu
  obtain ⟨At, ct, _, hvt, _, _, _⟩ := hu.2
  subst hvt
  have HW8 := Lib.hid (HW7.out.below hq8)
  have HG8 := Lib.hid (HG7.out.below hq8)
  have hb8 := hb7.trans (hq8.mono hb7.size)
  obtain ⟨k1, k2, e1, e2, e3, e4⟩ := HW8.out
  obtain ⟨k3, k4, e5, e6, e7, e8⟩ := HG8.out
  have HW9 := Lib.hid (BoxS.soon (w := w1) e4 (Nat.le_refl _) e1 hu)
  have HG9 : Hid (((w8.setCell ⟨w1.heap.size, 0, none⟩ (.slice Au aG.nodes.length cu)).setCell ⟨w1.heap.size, 1, none⟩ (.slice At aG.ties.length ct)).heap[w4.heap.size]? = some (.cells #[k3, k4] 25 (0, 0))) := by
    unfold Hid
    rw [Below.heap_setCell _ _ _ _ (by show w4.heap.size ≠ w1.heap.size; omega), Below.heap_setCell _ _ _ _ (by show w4.heap.size ≠ w1.heap.size; omega)]; exact e5
  have m0 := block_cell e1 0
  have m1 := block_cell e1 1
  have f0 := block_free e1 0
  have f1 := block_free e1 1
  clear hu e1 e2 e3 e4 e5 e6 e7 e8 HW7 HG7 HW8 HG8 hq8 hb7
  go_upto_region 10 with fail
  clear m0 m1 f0 f1
  generalize (w8.setCell ⟨w1.heap.size, 0, none⟩ (.slice Au aG.nodes.length cu)).setCell ⟨w1.heap.size, 1, none⟩ (.slice At aG.ties.length ct) = w9 at *
  have hb9 : Below w0.heap.size w0 w9 := by
    obtain ⟨_, _, _, _, _, h⟩ := HW9.out
    exact hb1.trans (h.mono hbw)
  clear hb8
  -- the graphs' cells: hb9: above w0
  have x0 := cell_below (hb9) HC.out.1
  have x1 := cell_below (hb9) HC.out.2.1
  have hx := HDA.out w9 hb9
  clear HDA
  go_wp2_with fail
  refine hx.mono ?_
  clear hx x0 x1
  rintro e wa ⟨un, ut, rfl, ⟨B, xs, hu⟩, hqa⟩
  obtain ⟨Au2, cu2, rfl, _, _⟩ := hu.r.1.form
  obtain ⟨At2, ct2, rfl, _, _⟩ := hu.r.2.form
  have HWa := Lib.hid (HW9.out.below hqa)
  have hga := (hqa.block _ (Array.getElem?_eq_some_iff.1 HG9.out).1).trans HG9.out
  have HGb := Lib.hid (BoxG.soon (w := w1) ((fun ⟨_, _, _, _, _, h⟩ => h : BoxS w w1 w1.heap.size aG wa → Below w1.heap.size w1 wa) HWa.out) (show w1.heap.size ≤ w4.heap.size by omega) hga hu)
  have HWb := Lib.hid ((HWa.out.other (i := 0) (u := .slice Au2 aG.nodes.length cu2) hga (by omega) (by omega)).other (i := 1) (u := .slice At2 aG.ties.length ct2) (setCell_block hga 0 _) (by omega) (by omega))
  have m0 := block_cell hga 0
  have m1 := block_cell hga 1
  have f0 := block_free hga 0
  have f1 := block_free hga 1
  clear hu hga HW9 HG9 HWa hqa hb9
  go_upto_region 11 with fail
  clear m0 m1 f0 f1
  generalize (wa.setCell ⟨w4.heap.size, 0, none⟩ (.slice Au2 aG.nodes.length cu2)).setCell ⟨w4.heap.size, 1, none⟩ (.slice At2 aG.ties.length ct2) = wb at *
  have hbb : Below w0.heap.size w0 wb := by
    obtain ⟨_, _, _, _, _, h⟩ := HWb.out
    exact hb1.trans (h.mono hbw)
  -- the error is the one told: ae: the number; wb: the world; hbb: it is above w0; wd: the world then; hqd: its fact's name
  have hx := same_any ae ae wb (hg.below (hb0.trans ((hbb).mono hb0.size)))
  rw [beq_self_eq_true] at hx
  go_wp2_with fail
  refine hx.mono ?_
  clear hx
  rintro e wd ⟨rfl, hqd⟩
  have hbd := hbb.trans (hqd.mono hbb.size)
  have HWd := Lib.hid (HWb.out.below hqd)
  have HGd := Lib.hid (HGb.out.below hqd)
  clear HWb HGb hqd hbb
  obtain ⟨k1, k2, e1, e2, e3, e4⟩ := HWd.out
  obtain ⟨k3, k4, e5, e6, e7, e8⟩ := HGd.out
  have hk1 := e2.r (hb0.trans (hbd.mono hb0.size))
  have hx := sgraph_any aG aG _ _ _ _ wd e6 hk1
  rw [decide_eq_true rfl] at hx
  obtain ⟨B1, d1, rfl, _, _⟩ := hk1.1.form
  obtain ⟨B2, d2, rfl, _, _⟩ := hk1.2.form
  obtain ⟨B3, d3, rfl, _, _⟩ := e6.1.form
  obtain ⟨B4, d4, rfl, _, _⟩ := e6.2.form
  have m0 := block_cell e1 0
  have m1 := block_cell e1 1
  have n0 := block_cell e5 0
  have n1 := block_cell e5 1
  have HK1 := Lib.hid hk1
  have HKB := Lib.hid e1
  clear e1 e2 e3 e4 e5 e6 e7 e8 hk1 HWd HGd
  go_wp2_with fail
  refine hx.mono ?_
  clear hx m0 m1 n0 n1
  rintro e we ⟨rfl, hqe⟩
  have hbe := hbd.trans (hqe.mono hbd.size)
  have hk1 := HK1.out.below hqe
  have hkb := (hqe.block _ (Array.getElem?_eq_some_iff.1 HKB.out).1).trans HKB.out
  have m0 := block_cell hkb 0
  have m1 := block_cell hkb 1
  clear HK1 HKB hkb hqe hbd
  -- the graphs' cells: hbe: above w0
  have x0 := cell_below (hbe) HC.out.1
  have x1 := cell_below (hbe) HC.out.2.1
  go_upto_if 71 with fail
  go_cut [20] (fun v wx => Sl oprL wx v tr ∧ Below we.heap.size we wx)
  case first =>
    by_cases hz : ae = 0
    case neg =>
      have hzb : (ae == 0) = false := by simpa using hz
      have HN := Lib.hid (PT.out hz)
      clear hz x0 x1 hk1 m0 m1
      go_wp2_with fail
      go_meet
      exact ⟨by rw [HN.out]; exact Sl.nil 0 (Nat.zero_le _) none, Below.refl _ _⟩
    have hzb : (ae == 0) = true := by simpa using hz
    have hx := HRF.out hz _ _ we hbe hk1
    clear hz hk1
    go_wp2_with fail
    refine hx.mono ?_
    clear hx x0 x1 m0 m1
    rintro e wf ⟨v, rfl, hv, hqf⟩
    obtain ⟨Av, cv, rfl, _, _⟩ := hv.form
    have HV := Lib.hid hv
    clear hv
    go_wp2_with fail
    go_meet
    exact ⟨HV.out, hqf⟩
  case rest =>
  obtain ⟨wf, hwf⟩ : ∃ x : World, x = wc := ⟨_, rfl⟩
  subst hwf
  obtain ⟨hv, hqf⟩ := hcut
  have hbf := hbe.trans (hqf.mono hbe.size)
  obtain ⟨Av, cv, rfl, _, _⟩ := hv.form
  have HV := Lib.hid hv
  clear hv hqf hbe x0 x1 m0 m1 hk1 HRF PT
  -- the graphs' cells: hbf: above w0
  have x0 := cell_below (hbf) HC.out.1
  have x1 := cell_below (hbf) HC.out.2.1
  have hx := HTU.out wf hbf
  clear HTU
  go_wp2_with fail
  refine hx.mono ?_
  clear hx x0 x1
  rintro e wg ⟨v2, ys, rfl, ho, hqg⟩
  have hbg2 := hbf.trans (hqg.mono hbf.size)
  have hs := ho.sl
  obtain ⟨Ax, cx, rfl, _, _⟩ := hs.form
  have HV := Lib.hid (HV.out.below hqg)
  have HS := Lib.hid hs
  clear ho hs hqg hbf
  -- the error is the one told: ae: the number; wg: the world; hbg2: it is above w0; wh: the world then; hqh: its fact's name
  have hx := same_any ae ae wg (hg.below (hb0.trans ((hbg2).mono hb0.size)))
  rw [beq_self_eq_true] at hx
  go_wp2_with fail
  refine hx.mono ?_
  clear hx
  rintro e wh ⟨rfl, hqh⟩
  have hbh := hbg2.trans (hqh.mono hbg2.size)
  have hx := sops_any tr tr _ _ wh (HS.out.below hqh) (HV.out.below hqh)
  rw [decide_eq_true rfl] at hx
  clear HS HV hqh hbg2
  go_wp2_with fail
  refine hx.mono ?_
  clear hx
  rintro e wi ⟨rfl, hqi⟩
  have hbi := hbh.trans (hqi.mono hbh.size)
  clear hqi hbh
  have y0 := cell_below (hbi) HC.out.2.2.1
  have y1 := cell_below (hbi) HC.out.2.2.2
  go_upto_if 88 with fail
  go_cut [9] (fun e wx => e = .int .i64 fe ∧ Below wi.heap.size wi wx)
  case first =>
    by_cases hz : z = 0
    case neg =>
      have hzb : (z == 0) = false := by simpa using hz
      have HX := Lib.hid (show fe = z by rw [PF.out, if_neg hz])
      clear hz y0 y1
      go_wp2_with fail
      go_meet
      exact ⟨by rw [HX.out], Below.refl _ _⟩
    have hzb : (z == 0) = true := by simpa using hz
    have HX := Lib.hid (show fe = zh by rw [PF.out, if_pos hz])
    have hx := HRH.out wi hbi
    clear hz
    go_wp2_with fail
    refine hx.mono ?_
    clear hx y0 y1
    rintro e wj ⟨rfl, hqj⟩
    go_wp2_with fail
    go_meet
    exact ⟨by rw [HX.out], hqj⟩
  case rest =>
  obtain ⟨wj, hwj⟩ : ∃ x : World, x = wc := ⟨_, rfl⟩
  subst hwj
  obtain ⟨rfl, hqj⟩ := hcut
  have hbj := hbi.trans (hqj.mono hbi.size)
  clear hqj hbi y0 y1 PF HRH
  -- the graphs' cells: hbj: above w0
  have x0 := cell_below (hbj) HC.out.1
  have x1 := cell_below (hbj) HC.out.2.1
  have y0 := cell_below (hbj) HC.out.2.2.1
  have y1 := cell_below (hbj) HC.out.2.2.2
  go_upto_if 92 with fail
  go_cut [20] (fun v wx => Sl oprL wx v fr ∧ Below wj.heap.size wj wx)
  case first =>
    by_cases hz : fe = 0
    case neg =>
      have hzb : (fe == 0) = false := by simpa using hz
      have HN := Lib.hid (PR.out hz)
      clear hz x0 x1 y0 y1
      go_wp2_with fail
      go_meet
      exact ⟨by rw [HN.out]; exact Sl.nil 0 (Nat.zero_le _) none, Below.refl _ _⟩
    have hzb : (fe == 0) = true := by simpa using hz
    have hx := HRF2.out hz wj hbj
    clear hz
    go_wp2_with fail
    refine hx.mono ?_
    clear hx x0 x1 y0 y1
    rintro e wk ⟨v, rfl, hv, hqk⟩
    obtain ⟨Av, cv, rfl, _, _⟩ := hv.form
    have HV := Lib.hid hv
    clear hv
    go_wp2_with fail
    go_meet
    exact ⟨HV.out, hqk⟩
  case rest =>
  obtain ⟨wk, hwk⟩ : ∃ x : World, x = wc := ⟨_, rfl⟩
  subst hwk
  obtain ⟨hv, hqk⟩ := hcut
  have hbk := hbj.trans (hqk.mono hbj.size)
  obtain ⟨Av, cv, rfl, _, _⟩ := hv.form
  have HV := Lib.hid hv
  clear hv hqk hbj x0 x1 y0 y1 HRF2 PR
  -- the graphs' cells: hbk: above w0
  have x0 := cell_below (hbk) HC.out.1
  have x1 := cell_below (hbk) HC.out.2.1
  have y0 := cell_below (hbk) HC.out.2.2.1
  have y1 := cell_below (hbk) HC.out.2.2.2
  have hx := HDF.out wk hbk
  clear HDF
  go_wp2_with fail
  refine hx.mono ?_
  clear hx x0 x1 y0 y1
  rintro e wl ⟨v2, ys, rfl, ho, hql⟩
  have hbl := hbk.trans (hql.mono hbk.size)
  have hs := ho.sl
  obtain ⟨Ax, cx, rfl, _, _⟩ := hs.form
  have HV := Lib.hid (HV.out.below hql)
  have HS := Lib.hid hs
  clear ho hs hql hbk
  -- the error is the one told: fe: the number; wl: the world; hbl: it is above w0; wm: the world then; hqm: its fact's name
  have hx := same_any fe fe wl (hg.below (hb0.trans ((hbl).mono hb0.size)))
  rw [beq_self_eq_true] at hx
  go_wp2_with fail
  refine hx.mono ?_
  clear hx
  rintro e wm ⟨rfl, hqm⟩
  have hbm := hbl.trans (hqm.mono hbl.size)
  have hx := sops_any fr fr _ _ wm (HS.out.below hqm) (HV.out.below hqm)
  rw [decide_eq_true rfl] at hx
  clear HS HV hqm hbl
  go_wp2_with fail
  refine hx.mono ?_
  clear hx
  rintro e wn ⟨rfl, hqn⟩
  have hbn := hb0.trans ((hbm.trans (hqn.mono hbm.size)).mono hb0.size)
  go_wp2_with fail
  go_ret
  exact ⟨rfl, hbn⟩
end Go.Proofs.YtngbbefpphinjaaGreatDoor

/- Plain: an op as an argument. -/
namespace Go.Proofs.YtngbbefpphinjaaGreatDoor
open Go Go.RowKit Go.Deep Go.ChangeShapes Go.WideShapes Go.Joins

set_option maxRecDepth 100000 in
theorem arg_op {H : Type} {enc : TypeId × Value → H} {w : World} {base b0 : Nat} {r : Reach} {spare : Nat → Bool} {held : Bool} {v : Value} {d : DataW H} {p : List MemPlace}
    (hv : Value.okWide Tryz.prog w r b0 37 v) (h : DataW.Trod enc Tryz.prog w base spare held 37 v d p) (hb : Rows.uptoBulk d ≤ 1048576) :
    ∃ (u : Value) (o : Opr), v = .agg (oprCells o u) ∧ OprR w u o := by
  obtain ⟨o, u, e, h1⟩ := arg_one o_opr h hb
  obtain ⟨cs, rfl, _⟩ := okWide_struct Tryz.underlying37 hv
  have e' : cs.toList = (oprCells o u).toList := e
  exact ⟨u, o, by rw [Array.toList_inj.1 e'], h1⟩
end Go.Proofs.YtngbbefpphinjaaGreatDoor
