/- Parts: KinB. -/
import Derived.RangeFuncNested
import Derived.RangeFuncBound
import Derived.RangeFuncCalls
import Derived.RangeFuncLeaves
import Derived.RangeFuncBox
import Derived.RangeFuncWrites
import Derived.Shelf.Abstract
import Derived.OwnWalkIn
import Derived.TacticsInMore
import Derived.LoopNIn
import Derived.LoopIn
import Derived.Test.YtgioaphnadncfaaDoorMg04
/- Contract: slices.Backward over kinds: the last first, then the one ahead of it, .., for every loop body that keeps what lay. -/
namespace Go.Proofs.YtgioaphnadncfaaDoor
open Go Go.RowKit Go.Shelf

attribute [local go_sem] Oper.semAt_some

/-- A kind's value, in whatever later world. -/
structure KndAt (w : World) (b o : Nat) (l : List Knd) (f : Fin l.length → Value × Value) : Prop where
  at_ : ∀ i : Fin l.length, w.cell? ⟨b, o + i.1 * 3, none⟩ = some (.string (l[i.1]).name) ∧ w.cell? ⟨b, o + i.1 * 3 + 1, none⟩ = some (f i).1 ∧ w.cell? ⟨b, o + i.1 * 3 + 2, none⟩ = some (f i).2 ∧
    Sm (l[i.1]).name ∧ Sl strL w (f i).1 (l[i.1]).ofs ∧ Sl fldL w (f i).2 (l[i.1]).fields
theorem kndAt_of {w : World} {A : Option Addr} {n c : Nat} {l : List Knd} (h : Sl kndL w (.slice A n c) l) (h0 : 0 < l.length) : ∃ b o f, A = some ⟨b, o, none⟩ ∧ KndAt w b o l f := by
  obtain ⟨b, o, hA, hall⟩ := knd_all h h0
  have : ∀ i : Fin l.length, ∃ p : Value × Value, w.cell? ⟨b, o + i.1 * 3, none⟩ = some (.string (l[i.1]).name) ∧ w.cell? ⟨b, o + i.1 * 3 + 1, none⟩ = some p.1 ∧ w.cell? ⟨b, o + i.1 * 3 + 2, none⟩ = some p.2 ∧
      Sm (l[i.1]).name ∧ Sl strL w p.1 (l[i.1]).ofs ∧ Sl fldL w p.2 (l[i.1]).fields := fun i => by
    obtain ⟨u, x, h1, h2, h3, c0, c1, c2⟩ := hall i.1 _ (List.getElem?_eq_getElem i.2)
    exact ⟨(u, x), c0, c1, c2, h1, h2, h3⟩
  exact ⟨b, o, fun i => Classical.choose (this i), hA, ⟨fun i => Classical.choose_spec (this i)⟩⟩
theorem KndAt.below {w w' : World} {b o : Nat} {l : List Knd} {f : Fin l.length → Value × Value} (hb : Below w.heap.size w w') (h : KndAt w b o l f) : KndAt w' b o l f :=
  ⟨fun i => let ⟨c0, c1, c2, h1, h2, h3⟩ := h.at_ i; ⟨cell_below hb c0, cell_below hb c1, cell_below hb c2, h1, h2.below hb, h3.below hb⟩⟩
/-- What a round is handed. -/
def kndEnc (l : List Knd) (f : Fin l.length → Value × Value) (i : Fin l.length) : Array Value := #[.int .i64 (i.1 : Int), .agg #[.string (l[i.1]).name, (f i).1, (f i).2]]
def downL (n : Nat) : List (Fin n) := (List.finRange n).reverse
theorem downL_length (n : Nat) : (downL n).length = n := by simp [downL]
theorem downL_get (n m k : Nat) (h : m + 1 + k = n) : (downL n)[k]? = some ⟨m, by omega⟩ := by
  unfold downL
  rw [List.getElem?_reverse (by simp; omega)]
  simp only [List.length_finRange]
  rw [List.getElem?_eq_getElem (by simp; omega)]
  congr 1
  apply Fin.ext
  simp
  omega
theorem take_step {α : Type} {l : List α} {k : Nat} {x : α} (h : l[k]? = some x) : l.take (k + 1) = l.take k ++ [x] := by
  rw [List.take_add_one, h]; rfl

/-- What a round that goes on keeps: all that lay below n, and the iterator's own box. -/
def KeepsBox (n Bs : Nat) (W W' : World) : Prop := Below n W W' ∧ W'.cell? ⟨Bs, 0, none⟩ = W.cell? ⟨Bs, 0, none⟩
theorem keepsBox_t {n Bs : Nat} {X Y Z : World} (h : KeepsBox n Bs X Y) (k : KeepsBox n Bs Y Z) : KeepsBox n Bs X Z := ⟨h.1.trans k.1, k.2.trans h.2⟩
theorem keepsBox_b {n Bs : Nat} {w : World} (hn : n ≤ w.heap.size) (hB : Bs < w.heap.size) (W : World) (l : Nat) (o o' : Obj) (hl : w.heap.size ≤ l) (h : W.heap[l]? = some o) (h1 : o.isCells = false) (h2 : o.isWalk = false) : KeepsBox n Bs W (W.putObj l o') := by
  refine ⟨belowK_b hn W l o o' hl h h1 h2, ?_⟩
  have hb : Below (Bs + 1) W (W.putObj l o') := belowK_b (w := w) (by omega) W l o o' hl h h1 h2
  exact hb.cell (p := ⟨Bs, 0, none⟩) (by simp)

set_option maxRecDepth 100000 in
set_option maxHeartbeats 2000000 in
theorem backward1_in (F : Fence) (n : Nat) (hF : F.fn 114) (hro : F.round = none) (hn : 1 ≤ n) (lr Bs c : Nat) (w0 : World) (A : Option Addr) (l : List Knd) (f : Fin l.length → Value × Value)
    (hl : Sl kndL w0 (.slice A l.length c) l) (hf : 0 < l.length → ∃ b o, A = some ⟨b, o, none⟩ ∧ KndAt w0 b o l f) (J Jx : List (Fin l.length) → World → Prop)
    (hY : ∀ pre x W, J pre W → pre.length < l.length → YieldAt F (n - 1) Tryd.prog lr (kndEnc l f x) W fun e W' =>
      (e = .returned (.bool true) ∧ J (pre ++ [x]) W' ∧ KeepsBox w0.heap.size Bs W W') ∨ (e = .returned (.bool false) ∧ Jx (pre ++ [x]) W'))
    (W : World) (hW : Below w0.heap.size w0 W) (hBs : W.cell? ⟨Bs, 0, none⟩ = some (.slice A l.length c)) (h0 : J [] W) :
    CallsIn F n Tryd.prog 114 #[.func (.yield lr) #[] #[], .pointer (some ⟨Bs, 0, none⟩)] W fun e W' => (∃ v, e = .returned v) ∧
      ((∃ ys, ys = downL l.length ∧ J ys W') ∨ (∃ pre, pre <+: downL l.length ∧ Jx pre W')) := by
  obtain ⟨_, _, _, _, hc2⟩ := hl.form
  have hlm : (l.length : Int) ≤ 9223372036854775807 := by unfold maxLen at hc2; omega
  refine callsIn_of_wp Tryd.func114 rfl hF ?_ hro
  simp only [Tryd.ntmps114, List.size_toArray, List.length_cons, List.length_nil, Nat.reduceAdd, Nat.reduceSub, Array.replicate_succ, Array.replicate_zero, List.push_toArray, List.append_toArray, List.nil_append, List.cons_append]
  gi_wp2
  gi_loopw [3] (fun i wr => ∃ (z : Int) (m k : Nat), i = .int .i64 z ∧ m + k = l.length ∧ z = (m : Int) - 1 ∧ J ((downL l.length).take k) wr ∧ Below w0.heap.size w0 wr ∧ wr.cell? ⟨Bs, 0, none⟩ = some (.slice A l.length c)) (fun i _ => (intOf i + 1).toNat)
  case atStart => exact ⟨_, l.length, 0, by go_num, by omega, rfl, h0, hW, hBs⟩
  case round =>
    obtain ⟨z, m, k, rfl, hmk, hz, hJs, hnx, hbox⟩ := hrel
    cases m with
    | zero =>
      obtain rfl : k = l.length := by omega
      have hz0 : z < 0 := by omega
      have hz1 : decide (0 ≤ z) = false := decide_eq_false (by omega)
      clear hz
      gi_wp2
      go_end0
      exact ⟨⟨_, rfl⟩, .inl ⟨_, rfl, by rw [List.take_of_length_le (by simp [downL_length])] at hJs; exact hJs⟩⟩
    | succ m =>
      obtain rfl : z = (m : Int) := by omega
      have hm0 : (0 : Int) ≤ (m : Int) := by omega
      have hm1 : decide ((0 : Int) ≤ (m : Int)) = true := decide_eq_true hm0
      have hml : m < l.length := by omega
      have hml' : (m : Int) < (l.length : Int) := by omega
      have hg := downL_get l.length m k (by omega)
      obtain ⟨b, o, rfl, hK⟩ := hf (by omega)
      obtain ⟨c0, c1, c2, _, _, _⟩ := (hK.below hnx).at_ ⟨m, hml⟩
      dsimp only at c0 c1 c2
      obtain ⟨fn, tmps, assign, body, hy, hR⟩ := hY _ ⟨m, hml⟩ wr hJs (by simp [downL_length]; omega)
      simp only [kndEnc] at hy
      generalize (l[m]'hml).name = d0 at c0 hy
      generalize (f ⟨m, hml⟩).1 = d1 at c1 hy
      generalize (f ⟨m, hml⟩).2 = d2 at c2 hy
      have HG := Lib.hid hg
      clear hg hz hK hf hY hW h0
      gi_wp2
      refine hR.mono ?_
      rintro e W3 (⟨rfl, hJ3, hk3⟩ | ⟨rfl, hJx3⟩)
      · gi_wp2
        go_roundw
        case rel => exact ⟨(m : Int) - 1, m, k + 1, by go_num, by omega, rfl, by rw [take_step HG.out]; exact hJ3, hnx.trans hk3.1, hk3.2.trans hbox⟩
        case measure => simp [intOf]
      · gi_wp2
        refine bodyPost_ret (results_none rfl _ _ _) rfl ?_
        exact ⟨⟨_, rfl⟩, .inr ⟨_, by rw [← take_step HG.out]; exact List.take_prefix _ _, hJx3⟩⟩

set_option maxHeartbeats 1000000 in
theorem backward_in (F : Fence) (n : Nat) (hF : F.fn 111) (hro : F.round = none) (v : Value) (A : Option Addr) (len c : Nat) (hv : v = .slice A len c) (w : World) :
    CallsIn F n Tryd.prog 111 #[v] w fun e w' => e = .returned (.func (.func 114) #[] #[.pointer (some ⟨w.heap.size, 0, none⟩)]) ∧ w' = w.alloc (.cells #[v] 22) := by
  subst hv
  refine callsIn_of_wp Tryd.func111 rfl hF ?_ hro
  simp only [Tryd.ntmps111, List.size_toArray, List.length_cons, List.length_nil, Nat.reduceAdd, Nat.reduceSub, Array.replicate_succ, Array.replicate_zero, List.push_toArray, List.append_toArray, List.nil_append, List.cons_append]
  gi_wp2
  go_ret
  exact ⟨rfl, rfl⟩
theorem backward_stops (F : Fence) (n : Nat) (hF : F.fn 114) (hro : F.round = none) (hn : 1 ≤ n) (Bs c : Nat) (w0 W0 : World) (A : Option Addr) (l : List Knd) (f : Fin l.length → Value × Value)
    (hl : Sl kndL w0 (.slice A l.length c) l) (hf : 0 < l.length → ∃ b o, A = some ⟨b, o, none⟩ ∧ KndAt w0 b o l f) (hW0 : Below w0.heap.size w0 W0) (hBs : W0.cell? ⟨Bs, 0, none⟩ = some (.slice A l.length c)) :
    SeqStopsK F n Tryd.prog 114 #[.pointer (some ⟨Bs, 0, none⟩)] (kndEnc l f) (KeepsBox w0.heap.size Bs) (fun ys => ys = downL l.length) (fun pre => pre <+: downL l.length) l.length W0 := fun lr J Jx W hW _ _ hY h0 =>
  backward1_in F n hF hro hn lr Bs c w0 A l f hl hf J Jx hY W (hW0.trans (hW.mono hW0.size)) (cell_below hW hBs) h0
end Go.Proofs.YtgioaphnadncfaaDoor
