/- Parts: TpB. -/
import Derived.Test.YtfeccicogcnhcaaGreatDoorMg09
import Derived.RangeFuncCalls
/- Contract: text.Parse: a text as a graph. Conditions: what the library's texts lean on (TxOk); the text is not too long. -/
namespace Go.Proofs.YtfeccicogcnhcaaGreatDoor
open Go Go.RowKit Go.Shelf

attribute [local go_sem] Oper.semAt_some
set_option maxHeartbeats 1000000 in
theorem lines_in (n : Nat) (s : ByteArray) (w : World) :
    CallsIn Fence.wide n Tryz.prog 33 #[.string s] w fun e w' => e = .returned (.func (.func 52) #[] #[.pointer (some ⟨w.heap.size, 0, none⟩)]) ∧ w' = w.alloc (.cells #[.string s] 9) := by
  refine callsIn_of_wp Tryz.func33 rfl trivial ?_ rfl
  simp only [Tryz.ntmps33, List.size_toArray, List.length_cons, List.length_nil, Nat.reduceAdd, Nat.reduceSub, Array.replicate_succ, Array.replicate_zero, List.push_toArray, List.append_toArray, List.nil_append, List.cons_append]
  gi_wp2
  go_ret
  exact ⟨rfl, rfl⟩
theorem alloc_up {W : World} {o o' : Obj} {k : Nat} (h : W.heap[k]? = some o) : (W.alloc o').heap[k]? = some o :=
  (((Below.refl W.heap.size W).alloc (Nat.le_refl _) o').block _ (Array.getElem?_eq_some_iff.1 h).1).trans h
theorem six_new (w : World) (o0 o1 o2 o3 o4 o5 : Obj) :
    let W := (((((w.alloc o0).alloc o1).alloc o2).alloc o3).alloc o4).alloc o5
    W.heap[w.heap.size]? = some o0 ∧ W.heap[w.heap.size + 1]? = some o1 ∧ W.heap[w.heap.size + 1 + 1]? = some o2 ∧ W.heap[w.heap.size + 1 + 1 + 1]? = some o3 ∧ W.heap[w.heap.size + 1 + 1 + 1 + 1]? = some o4 ∧ W.heap[w.heap.size + 1 + 1 + 1 + 1 + 1]? = some o5 ∧ Below w.heap.size w W ∧ W.heap.size = w.heap.size + 6 := by
  intro W
  have b0 := (Below.refl w.heap.size w).alloc (Nat.le_refl _) o0
  have b1 := b0.alloc b0.size o1
  have b2 := b1.alloc b1.size o2
  have b3 := b2.alloc b2.size o3
  have b4 := b3.alloc b3.size o4
  have b5 := b4.alloc b4.size o5
  refine ⟨?_, ?_, ?_, ?_, ?_, ?_, b5, by simp [W]⟩
  · exact alloc_up (alloc_up (alloc_up (alloc_up (alloc_up (heap_alloc_new _ _)))))
  · exact alloc_up (alloc_up (alloc_up (alloc_up (heap_at_new _ _ _ (by simp)))))
  · exact alloc_up (alloc_up (alloc_up (heap_at_new _ _ _ (by simp))))
  · exact alloc_up (alloc_up (heap_at_new _ _ _ (by simp)))
  · exact alloc_up (heap_at_new _ _ _ (by simp))
  · exact heap_at_new _ _ _ (by simp)
end Go.Proofs.YtfeccicogcnhcaaGreatDoor
