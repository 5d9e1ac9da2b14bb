/- Plain laws of the model: copy over elements of many cells; the operation at the end of a region. No condition. -/
import Derived.Test.YtldonhgcifhpgaaOwn
import Derived.Test.YtldonhgcifhpgaaQm
import Derived.Lib.AppendZerosOnto
import Derived.Lib.Overlaps
namespace Go.Proofs.Ytldonhgcifhpgaa
open Go Go.RowKit

theorem run_copy_q {P : Program} (w : World) (dT sT ty e : TypeId) (i : TypeInfo) (g o dLen dCap : Nat) (a : Addr) (sLen sCap m : Nat) (cur : Array Value) (t : TypeId) (cs : List Value)
    (hu : P.underlying dT = some (.slice e)) (hi : P.info? e = some i) (hg : w.heap[g]? = some (.cells cur t (0, 0))) (hm : Nat.min sLen dLen = m) (hn : cs.length = m * i.size)
    (hsrc : ∀ j v, cs[j]? = some v → w.cell? (a.add j) = some v) (hfit : o + cs.length ≤ cur.size) (h1 : ∀ v ∈ cs, v.oneCell' = true) :
    (Builtin.copy_ #[dT, sT] ty #[.slice (some ⟨g, o, none⟩) dLen dCap, .slice (some a) sLen sCap]).run P w =
      .ok (goInt m) (w.setRow g (cur.toList.take o ++ cs ++ cur.toList.drop (o + cs.length)).toArray) := by
  subst hm
  have hf := run_firstCells_some (P := P) w i.size (Nat.min sLen dLen) a sLen sCap cs hn hsrc
  have hst := run_storeCells_at P g o t cs 0 cur w hg (by simpa using hfit) h1
  simp [Builtin.copy_, run_underlying hu, Builtin.lenOf, sizeOf, typeInfo, hi, hf, hst]

theorem wp_copy_q {P : Program} (w : World) {o : Oper} {a : Act} {K : Act → World → Prop} {Q : Exit → Act → World → Prop} (d s : Operand) (t t' : TypeId)
    (ho : o.op = .call { callee := .builtin .copy, args := #[d, s], argTypes := #[t, t'] }) (v u : Value) (hd : a.eval d = v) (hs : a.eval s = u) {v' : Value} {w' : World}
    (hr : (Builtin.copy_ #[t, t'] o.type #[v, u]).run P w = .ok v' w') (h : K (a.put o.dst v') w') : o.wp P a w K Q := by
  unfold Oper.wp execOp
  simp only [ho, resolve, invoke, builtin, Sem.run_bind, Sem.run_pure, Result.andThen_ok, List.map_toArray, List.map_cons, List.map_nil, hd, hs, hr]
  exact h
theorem wpList_copy_q {P : Program} (w : World) {ops : Array Oper} {rest : List Oper} {o : Oper} {a : Act} {Q : Exit → Act → World → Prop} (hgd : o.guard = none) (d s : Operand) (t t' : TypeId)
    (ho : o.op = .call { callee := .builtin .copy, args := #[d, s], argTypes := #[t, t'] }) (v u : Value) (hd : a.eval d = v) (hs : a.eval s = u) {v' : Value} {w' : World}
    (hr : (Builtin.copy_ #[t, t'] o.type #[v, u]).run P w = .ok v' w') (h : wpList P ops Q rest (a.put o.dst v') w') : wpList P ops Q (o :: rest) a w :=
  wpList_plain hgd fun _ hK => wp_copy_q w d s t t' ho v u hd hs hr (hK _ _ h)
theorem wpList_append_z {P : Program} (w : World) {ops : Array Oper} {rest : List Oper} {o : Oper} {a : Act} {Q : Exit → Act → World → Prop} (hgd : o.guard = none) (s x : Operand) (t tn : TypeId)
    (ho : o.op = .call { callee := .builtin .append, args := #[s, x], argTypes := #[t, tn] }) (v u : Value) (hs : a.eval s = v) (hx : a.eval x = u) {v' : Value} {w' : World}
    (hr : (Builtin.append_ #[t, tn] o.type #[v, u]).run P w = .ok v' w') (h : wpList P ops Q rest (a.put o.dst v') w') : wpList P ops Q (o :: rest) a w := by
  refine wpList_plain hgd fun _ hK => ?_
  unfold Oper.wp execOp
  simp only [ho, resolve, invoke, builtin, Sem.run_bind, Sem.run_pure, Result.andThen_ok, List.map_toArray, List.map_cons, List.map_nil, hs, hx, hr]
  exact hK _ _ h

theorem addr_add (b o n : Nat) : (⟨b, o, none⟩ : Addr).add n = ⟨b, o + n, none⟩ := by
  unfold Addr.add
  split
  · rename_i h; subst h; rfl
  · rfl

/-! ### Lists -/
/-- What stands in the place of what it covers. -/
def lay {α : Type} (cur : List α) (o : Nat) (cs : List α) : List α := cur.take o ++ cs ++ cur.drop (o + cs.length)
theorem lay_length {α : Type} {cur cs : List α} {o : Nat} (h : o + cs.length ≤ cur.length) : (lay cur o cs).length = cur.length := by
  unfold lay; simp; omega
theorem lay_at {α : Type} (P M R cs : List α) (h : M.length = cs.length) {o : Nat} (ho : P.length = o) : lay (P ++ M ++ R) o cs = P ++ cs ++ R := by
  subst ho
  unfold lay
  rw [← h, ← List.length_append, List.drop_left, List.append_assoc P M R, List.take_left]
/-- Shift up, then lay the new ones: from o on the row holds what stood ahead of k, the new ones, what stood from k on. -/
theorem lay_insert {α : Type} (cur : List α) (o k s n : Nat) (xs cs : List α) (hx : (cur.drop o).take n = xs) (hxl : xs.length = n) (hc : cs.length = s) (hk : k ≤ n) (hfit : o + n + s ≤ cur.length) :
    ((lay (lay cur (o + k + s) (xs.drop k)) (o + k) cs).drop o).take (n + s) = xs.take k ++ cs ++ xs.drop k := by
  subst hc
  have e1 : cur = cur.take o ++ xs.take k ++ (xs.drop k ++ cur.drop (o + n)) := by
    rw [List.append_assoc, ← List.append_assoc (xs.take k), List.take_append_drop, ← hx, ← List.drop_drop, List.take_append_drop, List.take_append_drop]
  have hol : (cur.take o).length = o := by simp; omega
  have hCl : cs.length ≤ (cur.drop (o + n)).length := by simp; omega
  generalize cur.take o = A at *
  generalize cur.drop (o + n) = C at *
  generalize hX1 : xs.take k = X1 at *
  generalize hX2 : xs.drop k = X2 at *
  have h1 : X1.length = k := by rw [← hX1]; simp; omega
  have h2 : X2.length = n - k := by rw [← hX2]; simp; omega
  have e2 : X2 ++ C = (X2 ++ C).take cs.length ++ ((X2 ++ C).drop cs.length).take X2.length ++ (X2 ++ C).drop (cs.length + X2.length) := by
    rw [← List.drop_drop, List.append_assoc, List.take_append_drop, List.take_append_drop]
  have hT : ((X2 ++ C).take cs.length).length = cs.length := by simp; omega
  have hM : (((X2 ++ C).drop cs.length).take X2.length).length = X2.length := by simp; omega
  generalize (X2 ++ C).take cs.length = T at *
  generalize ((X2 ++ C).drop cs.length).take X2.length = M at *
  generalize (X2 ++ C).drop (cs.length + X2.length) = D at *
  rw [e1, e2, show A ++ X1 ++ (T ++ M ++ D) = (A ++ X1 ++ T) ++ M ++ D by simp, lay_at (A ++ X1 ++ T) M D X2 hM (by simp; omega),
    show A ++ X1 ++ T ++ X2 ++ D = (A ++ X1) ++ T ++ (X2 ++ D) by simp, lay_at (A ++ X1) T (X2 ++ D) cs hT (by simp; omega)]
  rw [show A ++ X1 ++ cs ++ (X2 ++ D) = A ++ ((X1 ++ cs ++ X2) ++ D) by simp, ← hol, List.drop_left]
  rw [show n + cs.length = (X1 ++ cs ++ X2).length by simp; omega, List.take_left]
/-- The same onto a new row. -/
theorem lay_insert_new {α : Type} (k s n : Nat) (xs cs Z : List α) (hxl : xs.length = n) (hc : cs.length = s) (hk : k ≤ n) (hz : n - k + s ≤ Z.length) :
    (lay (lay (xs.take k ++ Z) k cs) (k + s) (xs.drop k)).take (n + s) = xs.take k ++ cs ++ xs.drop k := by
  subst hc
  generalize hX1 : xs.take k = X1 at *
  generalize hX2 : xs.drop k = X2 at *
  have h1 : X1.length = k := by rw [← hX1]; simp; omega
  have h2 : X2.length = n - k := by rw [← hX2]; simp; omega
  have e2 : Z = Z.take cs.length ++ (Z.drop cs.length).take X2.length ++ Z.drop (cs.length + X2.length) := by
    rw [← List.drop_drop, List.append_assoc, List.take_append_drop, List.take_append_drop]
  have hT : (Z.take cs.length).length = cs.length := by simp; omega
  have hM : ((Z.drop cs.length).take X2.length).length = X2.length := by simp; omega
  generalize Z.take cs.length = T at *
  generalize (Z.drop cs.length).take X2.length = M at *
  generalize Z.drop (cs.length + X2.length) = D at *
  rw [e2, show X1 ++ (T ++ M ++ D) = X1 ++ T ++ (M ++ D) by simp, lay_at X1 T (M ++ D) cs hT h1, show X1 ++ cs ++ (M ++ D) = (X1 ++ cs) ++ M ++ D by simp,
    lay_at (X1 ++ cs) M D X2 hM (by simp; omega), show n + cs.length = (X1 ++ cs ++ X2).length by simp; omega, List.take_left]
end Go.Proofs.Ytldonhgcifhpgaa
