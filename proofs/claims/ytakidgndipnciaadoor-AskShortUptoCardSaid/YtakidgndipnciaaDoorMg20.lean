/- Parts: Told. -/
import Derived.Test.YtakidgndipnciaaDoorMg19
/- Contracts: plain.Told, kinsame.Error. Conditions: the library's variable holds the handle of the type error. -/
namespace Go.Proofs.YtakidgndipnciaaDoor
open Go Go.RowKit

/-- The library's variable holds the handle of the type error. -/
def GlobOk (w : World) : Prop := w.cell? ⟨1, 0, none⟩ = some (.iface 97 (.agg #[.pointer (some ⟨10, 26, none⟩)]))
theorem GlobOk.below {w w' : World} (hb : Below w.heap.size w w') (h : GlobOk w) : GlobOk w' := cell_below hb h
theorem below_al {w w' : World} (h : Below w.heap.size w w') (o : Obj) : Below w.heap.size w (w'.alloc o) := h.alloc h.size o
set_option maxHeartbeats 1000000 in
theorem told_any (k : Int) (w : World) (hg : GlobOk w) : Calls Tryd.prog 14 #[errV k] w fun e w' => e = .returned (.int .i64 k) ∧ Below w.heap.size w w' := by
  by_cases hk : k = 0
  · subst hk
    rw [errV_zero rfl]
    go_enter Tryd.func14, Tryd.ntmps14
    go_wp2_with fail
    go_ret
    exact ⟨rfl, Below.refl _ _⟩
  · rw [errV_some hk]
    clear hk
    have hb0 : Below w.heap.size w (w.alloc (.cells #[.int .i64 0] 46)) := (Below.refl _ _).alloc (Nat.le_refl _) _
    have h1 := as_hit k ⟨w.heap.size, 0, none⟩ (.int .i64 0) (w.alloc (.cells #[.int .i64 0] 46)) (hg.below hb0) (by rw [World.cell?_alloc_at _ _ _ _ rfl]; rfl) (by simp)
    clear hg
    go_enter Tryd.func14, Tryd.ntmps14
    go_wp2_with fail
    refine h1.mono ?_
    clear h1
    rintro e w' ⟨rfl, rfl⟩
    go_wp2_with fail
    go_ret
    refine ⟨rfl, ?_⟩
    exact below_al (below_al (below_al (below_al (below_al (Below.refl _ _) _) _) _) _) _
theorem same_any (k n : Int) (w : World) (hg : GlobOk w) : Calls Tryd.prog 7 #[errV k, .int .i64 n] w fun e w' => e = .returned (.bool (k == n)) ∧ Below w.heap.size w w' := by
  have h1 := told_any k w hg
  generalize errV k = v at *
  clear hg
  go_enter Tryd.func7, Tryd.ntmps7
  go_wp2_with fail
  refine h1.mono ?_
  clear h1
  rintro e w' ⟨rfl, hb⟩
  go_wp2_with fail
  go_ret
  exact ⟨rfl, hb⟩
end Go.Proofs.YtakidgndipnciaaDoor
