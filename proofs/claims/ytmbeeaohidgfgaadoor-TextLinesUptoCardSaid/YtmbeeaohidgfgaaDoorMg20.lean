/- Parts: Numb. -/
import Derived.Test.YtmbeeaohidgfgaaDoorMg01
import Derived.Test.YtmbeeaohidgfgaaDoorRows
import Derived.Deep.RegionLaw
/- Plain: a step of a region that draws, by a contract; the contract of kinlaw4.number. -/
namespace Go.Proofs.YtmbeeaohidgfgaaDoor
open Go Go.RowKit

/-- A step of a region that draws, as it stands. -/
theorem step_here {P : Program} {ops : Array Oper} {o : Oper} {a : Act} {w : World} {K : Act → World → Prop} {Q : Exit → Act → World → Prop} {E : Prop} (hg : o.guard = none) (h : Oper.wp P o a w K Q) :
    if Region.wanted o (yielded ops a.tmps) = true then Oper.wp P o a w K Q else E := by
  rw [if_pos (by simp [Region.wanted, hg])]; exact h
/-- A call at a step of a region that draws. -/
theorem step_call {P : Program} {ops : Array Oper} {o : Oper} {a : Act} {w : World} {K : Act → World → Prop} {Q : Exit → Act → World → Prop} {E : Prop} (hg : o.guard = none) (g : Nat) (vs : Array Value)
    (hr : (execOp a.eval o).run P w = .ok (.enter g vs) w) (u : Value) {R : World → Prop}
    (h : Calls P g vs w fun e w' => e = .returned u ∧ R w') (hk : ∀ w', R w' → K (a.put o.dst u) w') :
    if Region.wanted o (yielded ops a.tmps) = true then Oper.wp P o a w K Q else E := by
  rw [if_pos (by simp [Region.wanted, hg])]
  unfold Oper.wp
  rw [hr, Oper.upon_enter]
  exact h.mono fun e w' ⟨he, hR⟩ => by subst he; exact hk w' hR
theorem number_any (n : Int) (w : World) : Calls Tryd.prog 16 #[.int .i64 n] w fun e w' => e = .returned (.agg #[.int .i64 1, .int .i64 n, .string .empty]) ∧ Below w.heap.size w w' := by
  go_enter Tryd.func16, Tryd.ntmps16
  go_wp2_with fail
  exact bodyPost_ret (v := .agg #[.int .i64 1, .int .i64 n, .string .empty]) (by simp [results, Tryd.results16, go_sem]; rfl) rfl ⟨rfl, (Below.refl _ _).alloc (Nat.le_refl _) _⟩
end Go.Proofs.YtmbeeaohidgfgaaDoor
