/- Parts: RxG. -/
import Derived.Test.YtakidgndipnciaaDoorMg18
import Derived.Defers
import Derived.Recover
import Derived.BigRegion
import Derived.Laws.Pointers
/- Contracts of what ask.Parse defers: of a frame that panics, of one that returns. No condition. -/
namespace Go.Proofs.YtakidgndipnciaaDoor
open Go Go.RowKit

theorem wrong_as (v : Value) (w : World) : (Instr.typeAssert (.iface 51 v) 20 51 true).run Tryd.prog w = .ok (.tuple #[v, .bool true]) w := by kernel_rfl
/-- What it leaves. -/
def CaughtW (b : Nat) (n : Int) (w w' : World) : Prop := Below b w w' ∧ (∀ k, k < w.heap.size → k ≠ b → k ≠ b + 1 → k ≠ b + 1 + 1 → w'.heap[k]? = w.heap[k]?) ∧ w'.heap[b]? = some (.cells #[.slice none 0 0] 24 (0, 0)) ∧ w'.heap[b + 1]? = some (.cells #[.int .i64 n] 3 (0, 0)) ∧ w'.heap[b + 1 + 1]? = some (.cells #[.iface 46 (.int .i64 2)] 26 (0, 0))
set_option maxRecDepth 100000 in
set_option maxHeartbeats 4000000 in
theorem catch_wrong (b : Nat) (n : Int) (v0 v1 v2 : Value) (w : World) (h0 : w.heap[b]? = some (.cells #[v0] 24 (0, 0))) (h1 : w.heap[b + 1]? = some (.cells #[v1] 3 (0, 0))) (h2 : w.heap[b + 1 + 1]? = some (.cells #[v2] 26 (0, 0))) :
    CallsD Tryd.prog 15 #[.pointer (some ⟨b, 0, none⟩), .pointer (some ⟨b + 1, 0, none⟩), .pointer (some ⟨b + 1 + 1, 0, none⟩)] (.panicking ({ v := .iface 51 (.agg #[.int .i64 n]), recovered := false } :: [])) w fun e u' w' =>
      e = .returned (.tuple #[]) ∧ u' = .panicking ({ v := .iface 51 (.agg #[.int .i64 n]), recovered := true } :: []) ∧ CaughtW b n w w' := by
  refine callsD_of_wpS Tryd.func15 rfl fun c₀ cs hu => ?_
  apply wpS_seq
  apply wpS_region
  simp [wpOpsS, go_sem, recoverD, hu, Tryd.ntmps15, Exit.thenS]
  have HH := Lib.hid (And.intro h0 (And.intro h1 h2))
  have HA : Hid (Below w.heap.size w (w.alloc (.cells #[.int .i64 n] 51))) := (Below.refl w.heap.size w).alloc (Nat.le_refl _) (.cells #[.int .i64 n] 51)
  have HN := Lib.hid (heap_alloc_new w (.cells #[.int .i64 n] 51))
  have G0 := Lib.hid ((HA.out.block _ (Array.getElem?_eq_some_iff.1 h0).1).trans h0)
  have G1 := Lib.hid ((HA.out.block _ (Array.getElem?_eq_some_iff.1 h1).1).trans h1)
  have G2 := Lib.hid ((HA.out.block _ (Array.getElem?_eq_some_iff.1 h2).1).trans h2)
  have hfr : ∀ x : Value, #[Value.pointer (some ⟨b, 0, none⟩), Value.pointer (some ⟨b + 1, 0, none⟩), Value.pointer (some ⟨b + 1 + 1, 0, none⟩)] ++ ((Array.replicate 17 undef).setIfInBounds 3 x).setIfInBounds 0 x = #[Value.pointer (some ⟨b, 0, none⟩), Value.pointer (some ⟨b + 1, 0, none⟩), Value.pointer (some ⟨b + 1 + 1, 0, none⟩), x, undef, undef, x, undef, undef, undef, undef, undef, undef, undef, undef, undef, undef, undef, undef, undef] := fun x => rfl
  rw [hfr]
  clear hfr
  refine wpS_of_wp ?_
  refine wp_mono (Q := fun e a' w' => e = .normal ∧ a'.defers = [] ∧ CaughtW b n w w') ?_ ?_
  · clear h0 h1 h2 hu
    have hta := wrong_as
    go_upto_region 3 with fail
    clear hta
    generalize w.alloc (.cells #[.int .i64 n] 51) = w2 at *
    go_upto_region 5 with fail
    have n0 : w.heap.size ≠ b := by have := (Array.getElem?_eq_some_iff.1 HH.out.1).1; omega
    have n1 : w.heap.size ≠ b + 1 := by have := (Array.getElem?_eq_some_iff.1 HH.out.2.1).1; omega
    have n2 : w.heap.size ≠ b + 1 + 1 := by have := (Array.getElem?_eq_some_iff.1 HH.out.2.2).1; omega
    have y0 := block_cell HN.out 0
    have k0 := block_cell G0.out 0
    have k1 := block_cell G1.out 0
    have k2 := block_cell G2.out 0
    have f0 := block_free G0.out 0
    have f1 := block_free G1.out 0
    have f2 := block_free G2.out 0
    go_region
    all_goals
      refine ⟨rfl, rfl, ?_, ?_, ?_, ?_, ?_⟩
      · have hb : b ≤ w.heap.size := by have := (Array.getElem?_eq_some_iff.1 HH.out.1).1; omega
        exact ((((HA.out.mono hb).setCell (p := ⟨b, 0, none⟩) (Nat.le_refl _) _).setCell (p := ⟨b + 1, 0, none⟩) (Nat.le_succ _) _).setCell (p := ⟨b + 1 + 1, 0, none⟩) (Nat.le_succ_of_le (Nat.le_succ _)) _).drew
      · intro k hk k0 k1 k2
        exact (Below.heap_setCell _ ⟨b + 1 + 1, 0, none⟩ _ k k2).trans ((Below.heap_setCell _ ⟨b + 1, 0, none⟩ _ k k1).trans ((Below.heap_setCell _ ⟨b, 0, none⟩ _ k k0).trans (HA.out.block k hk)))
      · exact setCell_oth (setCell_oth (setCell_block G0.out 0 _) (by omega) 0 _) (by omega) 0 _
      · exact setCell_oth (setCell_block (setCell_oth G1.out (by omega) 0 _) 0 _) (by omega) 0 _
      · exact setCell_block (setCell_oth (setCell_oth G2.out (by omega) 0 _) (by omega) 0 _) 0 _
  · rintro e a' w' ⟨rfl, hd, hp⟩
    cases c₀
    simp_all [bodyPostS, results, Tryd.results15]
set_option maxRecDepth 100000 in
set_option maxHeartbeats 4000000 in
theorem catch_none (p0 p1 p2 : Addr) (w : World) :
    CallsD Tryd.prog 15 #[.pointer (some p0), .pointer (some p1), .pointer (some p2)] .returning w fun e u' w' => e = .returned (.tuple #[]) ∧ u' = .returning ∧ w' = w := by
  refine callsD_of_wpS Tryd.func15 rfl fun c₀ cs hu => ?_
  apply wpS_seq
  apply wpS_region
  simp [wpOpsS, go_sem, recoverD, hu, Tryd.ntmps15, Exit.thenS]
  have hfr : ∀ x : Value, #[Value.pointer (some p0), Value.pointer (some p1), Value.pointer (some p2)] ++ ((Array.replicate 17 undef).setIfInBounds 3 x).setIfInBounds 0 x = #[Value.pointer (some p0), Value.pointer (some p1), Value.pointer (some p2), x, undef, undef, x, undef, undef, undef, undef, undef, undef, undef, undef, undef, undef, undef, undef, undef] := fun x => rfl
  rw [hfr]
  clear hfr
  refine wpS_of_wp ?_
  refine wp_mono (Q := fun e a' w' => e = .normal ∧ a'.defers = [] ∧ w' = w) ?_ ?_
  · clear hu
    go_wp2_with fail
  · rintro e a' w' ⟨rfl, hd, rfl⟩
    cases c₀
    simp_all [bodyPostS, results, Tryd.results15]
end Go.Proofs.YtakidgndipnciaaDoor
