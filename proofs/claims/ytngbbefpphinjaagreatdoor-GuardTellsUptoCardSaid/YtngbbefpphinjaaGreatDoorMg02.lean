/- Parts: Qm, InsA, CloA, Same, MapB, SortI. -/
import Derived.Test.YtngbbefpphinjaaGreatDoorMg01
import Derived.Lib.AppendZerosOnto
import Derived.Lib.Overlaps
import Derived.WalkSpells
import Derived.Test.YtngbbefpphinjaaGreatDoorRows
import Derived.Lib.SliceRun
import Derived.Maps.Keyed
import Derived.Maps.Views
import Derived.Shelf.SortM.Plain
import Derived.Shelf.SortM.SortNone
import Derived.Ground.SlgmProg
/- A region that draws its order: first operations that only read, then one that may do anything, then again operations that only read: one walk in the order of the text serves every order. Conditions: the Bool on the region. -/
namespace Go.Proofs.YtngbbefpphinjaaGreatDoor
open Go Go.RowKit Go.Sort
section
variable {P : Program} {ops : Array Oper} {md : Region.Mode} {C : World -> Prop}
def tailB (md : Region.Mode) (ops : Array Oper) (n : Nat) : Bool :=
 (List.range ops.size).all fun t => decide (t <= n) || (List.range t).any fun j => decide (n <= j) && Region.waitsFor md ops t j
theorem tail_waits2 {n : Nat} {listed : Array Bool} (hs : Region.sinkB md ops n = true) (hc : tailB md ops n = true) (hn : n < ops.size) (inv : HeadInv md ops n listed) :
 ∀ (d i : Nat), n - i = d -> i < n -> listed.getD i true = false -> ∀ t, n <= t -> t ∉ Region.ready md ops listed := by
 intro d
 induction d using Nat.strongRecOn with
 | _ d ih =>
  intro i hd hi hun t ht hr
  obtain ⟨_, ot, hot, hall⟩ := mem_ready.1 hr
  have htlt : t < ops.size := (geB hot)
  by_cases htn : t = n
  ·subst htn
   have h1 := List.all_eq_true.1 hs i (List.mem_range.2 hi)
   obtain ⟨j, hj, hj2⟩ := List.any_eq_true.1 h1
   simp only [Bool.and_eq_true, decide_eq_true_eq] at hj2
   obtain ⟨oj, hoj, e, he, hb, hon⟩ := Region.waitsFor_spec hj2.2
   have hjle : j <= t := by have := List.mem_range.1 hj; omega
   by_cases hjt : j = t
   ·subst hjt
    have : oj = ot := Option.some.inj (hoj.symm.trans hot)
    subst this
    have h2 := hall e he hb
    rw [hon, getD_both hun] at h2
    cases h2
   cases hl : listed.getD j false with
   | true =>
    have h2 := inv.closed j oj hoj hl e he hb
    rw [hon, getD_both hun] at h2
    cases h2
   | false =>
    have hjs : j < listed.size := by rw [inv.size]; omega
    exact ih (t - j) (by omega) j rfl (by omega) (getD_in hjs hl) t (Nat.le_refl _) hr
  have h1 := List.all_eq_true.1 hc t (List.mem_range.2 htlt)
  simp only [Bool.or_eq_true, decide_eq_true_eq] at h1
  rcases h1 with h1 | h1
  ·omega
  obtain ⟨j, hj, hj2⟩ := List.any_eq_true.1 h1
  simp only [Bool.and_eq_true, decide_eq_true_eq] at hj2
  have hjt := List.mem_range.1 hj
  obtain ⟨o', ho', e, he, hb, hon⟩ := Region.waitsFor_spec hj2.2
  have : o' = ot := Option.some.inj (ho'.symm.trans hot)
  subst this
  have h2 := hall e he hb
  rw [hon, getD_both (inv.tail j hj2.1 (by omega))] at h2
  cases h2
theorem wpAnyLQ_first2 {n i : Nat} {oi : Oper} {v : Value} {L : Array Bool -> Act -> Prop} (hi : ops[i]? = some oi) (hsel : ∀ (j : Nat) (o : Oper) cs b, ops[j]? = some o -> o.op ≠ .select cs b)
 (hs : Region.sinkB md ops n = true) (hc : tailB md ops n = true) (hn : n < ops.size) (hin : i < n)
 (hdone : ∀ listed a, L listed a -> ∀ j ∈ Region.ready md ops listed, n <= j) :
 ∀ (f : Nat) (listed : Array Bool) (a : Act), HeadInv md ops n listed ->
  (∀ j oj, ops[j]? = some oj -> j ≠ i -> listed.getD j true = false -> (∀ e ∈ oj.after, Region.binds md e = true -> e.on ≠ i) -> oi.apart ops oj = true) ->
  i ∈ Region.ready md ops listed -> YieldsIn P ops C oi v a ->
  wpAnyLQ P md ops C n L f (listed.setIfInBounds i true) (a.put oi.dst v) -> wpAnyLQ P md ops C n L (f + 1) listed a := by
 intro f
 induction f with
 | zero =>
  intro listed a inv _ hr hy H
  have hun := (mem_ready.1 hr).1
  refine ⟨fun h => (by rw [h] at hr; cases hr), fun j hj => ?_⟩
  have hjn : j < n := by
   rcases Nat.lt_or_ge j n with h | h
   ·exact h
   exact absurd hj (tail_waits2 hs hc hn inv _ i rfl hin hun j h)
  refine ⟨hjn, ?_⟩
  by_cases hji : j = i
  ·subst hji; exact hy.qOp hi H
  ·have := hdone _ _ H j (ready_mono hj hji)
   omega
 | succ f ih =>
  intro listed a inv hfree hr hy H
  have hun := (mem_ready.1 hr).1
  refine ⟨fun h => (by rw [h] at hr; cases hr), fun j hj => ?_⟩
  have hjn : j < n := by
   rcases Nat.lt_or_ge j n with h | h
   ·exact h
   exact absurd hj (tail_waits2 hs hc hn inv _ i rfl hin hun j h)
  refine ⟨hjn, ?_⟩
  by_cases hji : j = i
  ·subst hji; exact hy.qOp hi H
  have h1 := (H.2 j (ready_mono hj hji)).2
  obtain ⟨hjun, oj, hoj, hall⟩ := mem_ready.1 hj
  have hnot : ∀ e ∈ oj.after, Region.binds md e = true -> e.on ≠ i := fun e he hb heq => by
   have h1 := hall e he hb
   rw [heq, getD_both hun] at h1
   cases h1
  have h2 := qOp_put hoj (hfree j oj hoj hji hjun hnot) (fun cs b => hsel i oi cs b hi) (fun cs b => hsel j oj cs b hoj) hy h1
  have hfree' : ∀ k ok, ops[k]? = some ok -> k ≠ i -> (listed.setIfInBounds j true).getD k true = false ->
   (∀ e ∈ ok.after, Region.binds md e = true -> e.on ≠ i) -> oi.apart ops ok = true := fun k ok hk hki hun hno => by
   refine hfree k ok hk hki ?_ hno
   by_cases hjk : j = k
   ·subst hjk; exact hjun
   rw [getD_set_ne true hjk] at hun; exact hun
  refine qOp_mono (fun a' h3 => ih (listed.setIfInBounds j true) a' (inv.set hj hjn) hfree' (ready_mono hr (Ne.symm hji)) h3.1 ?_) h2
  rw [Array.setIfInBounds_comm _ _ hji]
  exact h3.2
def midRest (md : Region.Mode) (ops : Array Oper) (g n : Nat) (listed : Array Bool) : Bool :=
 decide (Region.ready md ops listed = [n]) && Region.lexFrom md ops g (n + 1) (listed.setIfInBounds n true)
def midHead (md : Region.Mode) (ops : Array Oper) (g n : Nat) : Nat -> Nat -> Array Bool -> Bool
 | 0, _, listed => midRest md ops g n listed
 | f + 1, k, listed => (Region.ready md ops listed).contains k && Region.free md ops listed k && midHead md ops g n f (k + 1) (listed.setIfInBounds k true)
def midB (md : Region.Mode) (ops : Array Oper) (n : Nat) : Bool :=
 Region.noSelect ops && decide (n < ops.size) && Region.sinkB md ops n && tailB md ops n && midHead md ops (ops.size - n - 1) n n 0 (Array.replicate ops.size false)
theorem wpAnyLQ_lex2 {n g : Nat} {Lq : Act -> Prop} (hsel : Region.noSelect ops = true) (hs : Region.sinkB md ops n = true) (hc : tailB md ops n = true) (hn : n < ops.size) :
 ∀ (l : List Oper) (k : Nat) (listed : Array Bool) (a : Act), (∀ j, j < l.length -> l[j]? = ops[k + j]?) -> k + l.length = n -> HeadInv md ops n listed ->
 midHead md ops g n l.length k listed = true -> wpQuiet P ops C Lq l a ->
 wpAnyLQ P md ops C n (fun listed' a' => midRest md ops g n listed' = true /\ Lq a') l.length listed a
 | [], k, listed, a, _, _, _, hB, h => ⟨by simpa [midHead] using hB, h⟩
 | o :: l, k, listed, a, hl, hk, inv, hB, h => by
  have h0 : ops[k]? = some o := by simpa using (hl 0 (by simp)).symm
  simp only [List.length_cons, midHead, Bool.and_eq_true] at hB
  obtain ⟨⟨hr, hf⟩, hB'⟩ := hB
  have hkn : k < n := by simp only [List.length_cons] at hk; omega
  have hr' : k ∈ Region.ready md ops listed := by simpa using hr
  have hst : qOp P ops C k (wpQuiet P ops C Lq l) a := by unfold qOp; simp only [h0]; exact h
  obtain ⟨v, hy, hK⟩ := yieldsIn_of_qOp h0 hst
  exact wpAnyLQ_first2 h0 (Region.noSelect_spec hsel) hs hc hn hkn (fun listed' a' hL => by
   have h2 := hL.1
   simp only [midRest, Bool.and_eq_true, decide_eq_true_eq] at h2
   intro j hj
   rw [h2.1] at hj
   have : j = n := by simpa using hj
   omega) l.length listed a inv (Region.free_spec h0 hf) hr' hy
   (wpAnyLQ_lex2 hsel hs hc hn l (k + 1) _ _ (fun j hj => by have := hl (j + 1) (by simp; omega); simpa [Nat.add_assoc, Nat.add_comm 1 j] using this) (by simp only [List.length_cons] at hk; omega) (inv.set hr' hkn) hB' hK)
theorem wp_region_mid {id : Nat} {Q : Exit -> Act -> World -> Prop} {a : Act} {w : World} {l : List Oper} (n : Nat) (om : Oper) (hom : l[n]? = some om) (hgd : om.guard = none) (hm : P.follows .mixedOrders = true) (hB : midB .any l.toArray n = true)
 (hC : C { w with drawn := w.drawn + 1 })
 (h : wpQuiet P l.toArray C (fun a' => ∀ w', C w' -> om.wp P a' w' (fun a2 w2 => wpQuiet P l.toArray (fun x => ∃ n, x = w2.drewN n) (fun a3 => ∀ w3, (∃ n, w3 = w2.drewN n) -> Q .normal a3 w3) (l.drop (n + 1)) a2) Q) (l.take n) a) : (Code.region id l.toArray true).wp P Q a w := by
 simp only [midB, Bool.and_eq_true, decide_eq_true_eq] at hB
 obtain ⟨⟨⟨⟨hsel, hn⟩, hs⟩, hc⟩, hlex⟩ := hB
 have hn' : n < l.length := by simpa using hn
 have htl : (l.take n).length = n := by simp; omega
 have hdl : (l.drop (n + 1)).length = l.toArray.size - n - 1 := by simp; omega
 have inv0 : HeadInv .any l.toArray n (Array.replicate l.toArray.size false) :=
  ⟨by simp, fun j oj _ hl => (by rw [getD_replicate_false] at hl; cases hl), fun t _ ht => getD_in (by simpa using ht) (getD_replicate_false _ _)⟩
 have H := wpAnyLQ_lex2 (C := C) (md := .any) (g := l.toArray.size - n - 1) hsel hs hc hn (l.take n) 0 _ a (fun j hj => by
  have hj' : j < n := by rw [htl] at hj; exact hj
  simp [hj']) (by simpa using htl) inv0 (by rw [htl]; exact hlex) h
 refine wp_region_any hm ?_
 have key := wpAny_of_headQ (C := C) (Q' := Q) (g := l.toArray.size - n - 1 + 1) (fun listed a' w' hw' hL => by
  have h1 := hL.1
  simp only [midRest, Bool.and_eq_true, decide_eq_true_eq] at h1
  refine ⟨fun h0 => (by rw [h1.1] at h0; cases h0), fun i hi => ?_⟩
  rw [h1.1] at hi
  obtain rfl : i = n := by simpa using hi
  have h0 : l.toArray[i]? = some om := by simpa using hom
  unfold wpOp
  simp only [h0]
  have hw : Region.wanted om (yielded l.toArray a'.tmps) = true := by simp [Region.wanted, hgd]
  simp only [hw, if_true]
  refine .inl ?_
  have h2 := hL.2 w' hw'
  unfold Oper.wp at h2 ⊢
  generalize (execOp a'.eval om).run P w' = r at h2 ⊢
  have step : ∀ a2 w2, wpQuiet P l.toArray (fun x => ∃ n, x = w2.drewN n) (fun a3 => ∀ w3, (∃ n, w3 = w2.drewN n) -> Q .normal a3 w3) (l.drop (i + 1)) a2 ->
   wpAny P .any l.toArray Q (l.toArray.size - i - 1) (listed.setIfInBounds i true) a2 w2 := fun a2 w2 hq => by
   have h3 := wpAnyQ_lex (C := fun x => ∃ n, x = w2.drewN n) (md := .any) hsel (l.drop (i + 1)) (i + 1) (listed.setIfInBounds i true) a2 (fun j => by simp [List.getElem?_drop]) (by rw [hdl]; exact h1.2) hq
   rw [hdl] at h3
   exact wpAny_of_quiet (Q := fun a3 => ∀ w3, (∃ n, w3 = w2.drewN n) -> Q .normal a3 w3) (fun _ w3 hw3 h => h w3 hw3) _ _ _ _ ⟨0, rfl⟩ h3
  cases r with
  | ok nx w2 =>
   cases nx <;> simp only [Oper.upon] at h2 ⊢
   case value v => exact step _ _ h2
   case skip => exact step _ _ h2
   case defer d => exact step _ _ h2
   case enter f args =>
    refine h2.mono fun e w3 h3 => ?_
    cases e with
    | returned v => exact step _ _ h3
    | panicked c => exact h3
    | outgrown => exact h3
   case row r args => exact h2.mono fun v w3 h3 => step _ _ h3
   all_goals first | exact h2.elim | exact h2
  | halt hh w2 =>
   cases hh <;> simp only [Oper.upon] at h2 ⊢
   all_goals first | exact h2 | exact h2.elim) _ _ _ _ hC H
 rw [htl, show n + (l.toArray.size - n - 1 + 1) = l.toArray.size by simp only [List.size_toArray]; omega] at key
 exact key
theorem wp_mid_drew {id : Nat} {Q : Exit -> Act -> World -> Prop} {a : Act} {w : World} {l : List Oper} (n : Nat) (om : Oper) (hom : l[n]? = some om) (hgd : om.guard = none) (hm : P.follows .mixedOrders = true) (hB : midB .any l.toArray n = true)
 (h : wpQuiet P l.toArray (fun w' => ∃ n, w' = w.drewN n) (fun a' => ∀ w', (∃ n, w' = w.drewN n) -> om.wp P a' w' (fun a2 w2 => wpQuiet P l.toArray (fun x => ∃ n, x = w2.drewN n) (fun a3 => ∀ w3, (∃ n, w3 = w2.drewN n) -> Q .normal a3 w3) (l.drop (n + 1)) a2) Q) (l.take n) a) : (Code.region id l.toArray true).wp P Q a w :=
 wp_region_mid (C := fun w' => ∃ n, w' = w.drewN n) n om hom hgd hm hB ⟨1, rfl⟩ h
theorem quiet_mono {o : Oper} {K K' : Act -> Prop} {a : Act} (h : ∀ a, K a -> K' a) (hq : o.quiet P a C K) : o.quiet P a C K' := by
 unfold Oper.quiet at hq ⊢
 obtain ⟨v, h1, h2⟩ := hq
 exact ⟨v, h1, h _ h2⟩
theorem wpQuiet_mono {K K' : Act -> Prop} (h : ∀ a, K a -> K' a) : ∀ (l : List Oper) (a : Act), wpQuiet P ops C K l a -> wpQuiet P ops C K' l a
 | [], a, hq => h a hq
 | o :: l, a, hq => by
  unfold wpQuiet at hq ⊢
  split
  ·rename_i hw
   rw [if_pos hw] at hq
   exact quiet_mono (fun a => wpQuiet_mono h l a) hq
  rename_i hw
  rw [if_neg hw] at hq
  exact wpQuiet_mono h l _ hq
theorem wp_mid_k {id : Nat} {Q : Exit -> Act -> World -> Prop} {a : Act} {w : World} {l : List Oper} (n : Nat) (om : Oper) (hom : l[n]? = some om) (hgd : om.guard = none) (hm : P.follows .mixedOrders = true) (hB : midB .any l.toArray n = true)
 (h : wpQuiet P l.toArray (fun w' => ∃ n, w' = w.drewN n) (fun a' => ∀ w', (∃ n, w' = w.drewN n) -> ∀ K : Act -> World -> Prop, (∀ a2 w2, wpQuiet P l.toArray (fun x => ∃ n, x = w2.drewN n) (fun a3 => ∀ w3, (∃ n, w3 = w2.drewN n) -> Q .normal a3 w3) (l.drop (n + 1)) a2 -> K a2 w2) -> om.wp P a' w' K Q) (l.take n) a) : (Code.region id l.toArray true).wp P Q a w :=
 wp_mid_drew n om hom hgd hm hB (wpQuiet_mono (fun _ h w' hw' => h w' hw' _ fun _ _ h => h) _ _ h)
end
open Go Go.RowKit
theorem run_copy_q {P : Program} (w : World) (dT sT ty e : TypeId) (i : TypeInfo) (g o dLen dCap : Nat) (a : Addr) (sLen sCap m : Nat) (cur : Array Value) (t : TypeId) (cs : List Value)
 (hu : P.underlying dT = some (.slice e)) (hi : P.info? e = some i) (hg : w.heap[g]? = some (.cells cur t (0, 0))) (hm : Nat.min sLen dLen = m) (hn : cs.length = m * i.size)
 (hsrc : ∀ j v, cs[j]? = some v -> w.cell? (a.add j) = some v) (hfit : o + cs.length <= cur.size) (h1 : ∀ v ∈ cs, v.oneCell' = true) :
 (Builtin.copy_ #[dT, sT] ty #[.slice (some ⟨g, o, none⟩) dLen dCap, .slice (some a) sLen sCap]).run P w =
   .ok (goInt m) (w.setRow g (cur.toList.take o ++ cs ++ cur.toList.drop (o + cs.length)).toArray) := by
 subst hm
 have hf := run_firstCells_some (P := P) w i.size (Nat.min sLen dLen) a sLen sCap cs hn hsrc
 have hst := run_storeCells_at P g o t cs 0 cur w hg (by simpa using hfit) h1
 simp [Builtin.copy_, run_underlying hu, Builtin.lenOf, sizeOf, typeInfo, hi, hf, hst]
theorem wp_copy_q {P : Program} (w : World) {o : Oper} {a : Act} {K : Act -> World -> Prop} {Q : Exit -> Act -> World -> Prop} (d s : Operand) (t t' : TypeId)
 (ho : o.op = .call { callee := .builtin .copy, args := #[d, s], argTypes := #[t, t'] }) (v u : Value) (hd : a.eval d = v) (hs : a.eval s = u) {v' : Value} {w' : World}
 (hr : (Builtin.copy_ #[t, t'] o.type #[v, u]).run P w = .ok v' w') (h : K (a.put o.dst v') w') : o.wp P a w K Q := by
 unfold Oper.wp execOp
 simp only [ho, resolve, invoke, builtin, Sem.run_bind, Sem.run_pure, Result.andThen_ok, List.map_toArray, List.map_cons, List.map_nil, hd, hs, hr]
 exact h
theorem wpList_append_z {P : Program} (w : World) {ops : Array Oper} {rest : List Oper} {o : Oper} {a : Act} {Q : Exit -> Act -> World -> Prop} (hgd : o.guard = none) (s x : Operand) (t tn : TypeId)
 (ho : o.op = .call { callee := .builtin .append, args := #[s, x], argTypes := #[t, tn] }) (v u : Value) (hs : a.eval s = v) (hx : a.eval x = u) {v' : Value} {w' : World}
 (hr : (Builtin.append_ #[t, tn] o.type #[v, u]).run P w = .ok v' w') (h : wpList P ops Q rest (a.put o.dst v') w') : wpList P ops Q (o :: rest) a w := by
 refine wpList_plain hgd fun _ hK => ?_
 unfold Oper.wp execOp
 simp only [ho, resolve, invoke, builtin, Sem.run_bind, Sem.run_pure, Result.andThen_ok, List.map_toArray, List.map_cons, List.map_nil, hs, hx, hr]
 exact hK _ _ h
theorem addr_add (b o n : Nat) : (⟨b, o, none⟩ : Addr).add n = ⟨b, o + n, none⟩ := by
 unfold Addr.add
 split
 ·rename_i h; subst h; rfl
 rfl
/-! ### Lists -/
def lay {α : Type} (cur : List α) (o : Nat) (cs : List α) : List α := cur.take o ++ cs ++ cur.drop (o + cs.length)
theorem lay_length {α : Type} {cur cs : List α} {o : Nat} (h : o + cs.length <= cur.length) : (lay cur o cs).length = cur.length := by
 unfold lay; simp; omega
theorem lay_at {α : Type} (P M R cs : List α) (h : M.length = cs.length) {o : Nat} (ho : P.length = o) : lay (P ++ M ++ R) o cs = P ++ cs ++ R := by
 subst ho
 unfold lay
 rw [<- h, <- List.length_append, List.drop_left, List.append_assoc P M R, List.take_left]
theorem lay_insert {α : Type} (cur : List α) (o k s n : Nat) (xs cs : List α) (hx : (cur.drop o).take n = xs) (hxl : xs.length = n) (hc : cs.length = s) (hk : k <= n) (hfit : o + n + s <= cur.length) :
 ((lay (lay cur (o + k + s) (xs.drop k)) (o + k) cs).drop o).take (n + s) = xs.take k ++ cs ++ xs.drop k := by
 subst hc
 have e1 : cur = cur.take o ++ xs.take k ++ (xs.drop k ++ cur.drop (o + n)) := by
  rw [List.append_assoc, <- List.append_assoc (xs.take k), List.take_append_drop, <- hx, <- List.drop_drop, List.take_append_drop, List.take_append_drop]
 have hol : (cur.take o).length = o := by simp; omega
 have hCl : cs.length <= (cur.drop (o + n)).length := by simp; omega
 generalize cur.take o = A at *
 generalize cur.drop (o + n) = C at *
 generalize hX1 : xs.take k = X1 at *
 generalize hX2 : xs.drop k = X2 at *
 have h1 : X1.length = k := by rw [<- hX1]; simp; omega
 have h2 : X2.length = n - k := by rw [<- hX2]; simp; omega
 have e2 : X2 ++ C = (X2 ++ C).take cs.length ++ ((X2 ++ C).drop cs.length).take X2.length ++ (X2 ++ C).drop (cs.length + X2.length) := by
  rw [<- List.drop_drop, List.append_assoc, List.take_append_drop, List.take_append_drop]
 have hT : ((X2 ++ C).take cs.length).length = cs.length := by simp; omega
 have hM : (((X2 ++ C).drop cs.length).take X2.length).length = X2.length := by simp; omega
 generalize (X2 ++ C).take cs.length = T at *
 generalize ((X2 ++ C).drop cs.length).take X2.length = M at *
 generalize (X2 ++ C).drop (cs.length + X2.length) = D at *
 rw [e1, e2, show A ++ X1 ++ (T ++ M ++ D) = (A ++ X1 ++ T) ++ M ++ D by simp, lay_at (A ++ X1 ++ T) M D X2 hM (by simp; omega),
  show A ++ X1 ++ T ++ X2 ++ D = (A ++ X1) ++ T ++ (X2 ++ D) by simp, lay_at (A ++ X1) T (X2 ++ D) cs hT (by simp; omega)]
 rw [show A ++ X1 ++ cs ++ (X2 ++ D) = A ++ ((X1 ++ cs ++ X2) ++ D) by simp, <- hol, List.drop_left]
 rw [show n + cs.length = (X1 ++ cs ++ X2).length by simp; omega, List.take_left]
theorem lay_insert_new {α : Type} (k s n : Nat) (xs cs Z : List α) (hxl : xs.length = n) (hc : cs.length = s) (hk : k <= n) (hz : n - k + s <= Z.length) :
 (lay (lay (xs.take k ++ Z) k cs) (k + s) (xs.drop k)).take (n + s) = xs.take k ++ cs ++ xs.drop k := by
 subst hc
 generalize hX1 : xs.take k = X1 at *
 generalize hX2 : xs.drop k = X2 at *
 have h1 : X1.length = k := by rw [<- hX1]; simp; omega
 have h2 : X2.length = n - k := by rw [<- hX2]; simp; omega
 have e2 : Z = Z.take cs.length ++ (Z.drop cs.length).take X2.length ++ Z.drop (cs.length + X2.length) := by
  rw [<- List.drop_drop, List.append_assoc, List.take_append_drop, List.take_append_drop]
 have hT : (Z.take cs.length).length = cs.length := by simp; omega
 have hM : ((Z.drop cs.length).take X2.length).length = X2.length := by simp; omega
 generalize Z.take cs.length = T at *
 generalize (Z.drop cs.length).take X2.length = M at *
 generalize Z.drop (cs.length + X2.length) = D at *
 rw [e2, show X1 ++ (T ++ M ++ D) = X1 ++ T ++ (M ++ D) by simp, lay_at X1 T (M ++ D) cs hT h1, show X1 ++ cs ++ (M ++ D) = (X1 ++ cs) ++ M ++ D by simp,
  lay_at (X1 ++ cs) M D X2 hM (by simp; omega), show n + cs.length = (X1 ++ cs ++ X2).length by simp; omega, List.take_left]
section
variable {D : Type} {L : Lay D}
def Row (L : Lay D) (w : World) : List D -> List Value -> Prop
 | [], xs => xs = []
 | d :: l, xs => ∃ cs ys, xs = cs ++ ys /\ L.cells w d cs /\ Row L w l ys
theorem Row.nil (w : World) : Row L w [] [] := rfl
theorem Row.len {w : World} : ∀ {l : List D} {xs : List Value}, Row L w l xs -> xs.length = l.length * L.sz
 | [], xs, h => by rw [show xs = [] from h]; simp
 | d :: l, xs, h => by
  obtain ⟨cs, ys, rfl, hc, hr⟩ := h
  rw [List.length_append, L.len hc, hr.len, List.length_cons, Nat.add_mul]; omega
theorem Row.one {w : World} {d : D} {cs : List Value} (h : L.cells w d cs) : Row L w [d] cs := ⟨cs, [], by simp, h, rfl⟩
theorem Row.append {w : World} : ∀ {l m : List D} {xs ys : List Value}, Row L w l xs -> Row L w m ys -> Row L w (l ++ m) (xs ++ ys)
 | [], m, xs, ys, h, k => by rw [show xs = [] from h]; simpa using k
 | d :: l, m, xs, ys, h, k => by
  obtain ⟨cs, zs, rfl, hc, hr⟩ := h
  exact ⟨cs, zs ++ ys, by simp, hc, hr.append k⟩
theorem Row.below {w w' : World} (hb : Below w.heap.size w w') : ∀ {l : List D} {xs : List Value}, Row L w l xs -> Row L w' l xs
 | [], _, h => h
 | _ :: _, _, h => by
  obtain ⟨cs, zs, rfl, hc, hr⟩ := h
  exact ⟨cs, zs, rfl, L.below hb hc, hr.below hb⟩
theorem Row.split {w : World} : ∀ {l : List D} {xs : List Value} (i : Nat), i <= l.length -> Row L w l xs -> Row L w (l.take i) (xs.take (i * L.sz)) /\ Row L w (l.drop i) (xs.drop (i * L.sz))
 | l, xs, 0, _, h => by simpa using ⟨Row.nil w, h⟩
 | [], xs, i + 1, hi, h => by simp at hi
 | d :: l, xs, i + 1, hi, h => by
  obtain ⟨cs, ys, rfl, hc, hr⟩ := h
  have hl := L.len hc
  obtain ⟨h1, h2⟩ := hr.split i (by simpa using hi)
  have e : (i + 1) * L.sz = cs.length + i * L.sz := by rw [hl, Nat.add_mul]; omega
  rw [e, List.take_length_add_append, List.drop_length_add_append]
  exact ⟨⟨cs, _, rfl, hc, h1⟩, h2⟩
theorem Row.take {w : World} {l : List D} {xs : List Value} (h : Row L w l xs) (i : Nat) (hi : i <= l.length) : Row L w (l.take i) (xs.take (i * L.sz)) := (h.split i hi).1
theorem Row.drop {w : World} {l : List D} {xs : List Value} (h : Row L w l xs) (i : Nat) (hi : i <= l.length) : Row L w (l.drop i) (xs.drop (i * L.sz)) := (h.split i hi).2
theorem Row.get {w : World} : ∀ {l : List D} {xs : List Value} {i : Nat} {d : D}, Row L w l xs -> l[i]? = some d -> ∃ cs, L.cells w d cs /\ ∀ j u, cs[j]? = some u -> xs[i * L.sz + j]? = some u
 | [], _, i, d, _, h => by simp at h
 | e :: l, xs, 0, d, h, hd => by
  obtain ⟨cs, ys, rfl, hc, hr⟩ := h
  simp at hd; subst hd
  exact ⟨cs, hc, fun j u hj => by rw [Nat.zero_mul, Nat.zero_add, List.getElem?_append_left (List.getElem?_eq_some_iff.1 hj).1]; exact hj⟩
 | e :: l, xs, i + 1, d, h, hd => by
  obtain ⟨cs, ys, rfl, hc, hr⟩ := h
  obtain ⟨cs', hc', hx⟩ := hr.get (i := i) (by simpa using hd)
  refine ⟨cs', hc', fun j u hj => ?_⟩
  have hl := L.len hc
  rw [List.getElem?_append_right (by rw [hl, Nat.add_mul]; omega)]
  have : (i + 1) * L.sz + j - cs.length = i * L.sz + j := by rw [hl, Nat.add_mul]; omega
  rw [this]
  exact hx j u hj
theorem Row.insert {w : World} {l : List D} {xs cs : List Value} {d : D} (h : Row L w l xs) (i : Nat) (hi : i <= l.length) (hc : L.cells w d cs) : Row L w (l.take i ++ d :: l.drop i) (xs.take (i * L.sz) ++ cs ++ xs.drop (i * L.sz)) := by
 rw [List.append_assoc]
 exact (h.take i hi).append ((Row.one hc).append (h.drop i hi))
theorem Row.snoc {w : World} {l : List D} {xs cs : List Value} {d : D} (h : Row L w l xs) (hc : L.cells w d cs) : Row L w (l ++ [d]) (xs ++ cs) := h.append (Row.one hc)
def OneL (L : Lay D) : Prop := ∀ w d cs, L.cells w d cs -> ∀ u ∈ cs, u.oneCell' = true
theorem Row.oneCell (h1 : OneL L) {w : World} : ∀ {l : List D} {xs : List Value}, Row L w l xs -> ∀ u ∈ xs, u.oneCell' = true
 | [], xs, h, u, hu => by rw [show xs = [] from h] at hu; simp at hu
 | d :: l, xs, h, u, hu => by
  obtain ⟨cs, ys, rfl, hc, hr⟩ := h
  rcases List.mem_append.1 hu with hu | hu
  ·exact h1 _ _ _ hc u hu
  exact hr.oneCell h1 u hu
theorem row_of_all {w : World} {b : Nat} : ∀ {l : List D} {o : Nat}, (∀ k d, l[k]? = some d -> ∃ cs, L.cells w d cs /\ ∀ j u, cs[j]? = some u -> w.cell? ⟨b, o + (k * L.sz + j), none⟩ = some u) ->
 ∃ xs, Row L w l xs /\ ∀ j u, xs[j]? = some u -> w.cell? ⟨b, o + j, none⟩ = some u
 | [], o, _ => ⟨[], rfl, fun j u h => by simp at h⟩
 | d :: l, o, h => by
  obtain ⟨cs, hc, hx⟩ := h 0 d rfl
  obtain ⟨xs, hr, hy⟩ := row_of_all (b := b) (l := l) (o := o + L.sz) (fun k d hk => by
   obtain ⟨cs', hc', hx'⟩ := h (k + 1) d (by simpa using hk)
   refine ⟨cs', hc', fun j u hj => ?_⟩
   rw [<- hx' j u hj]
   have : o + L.sz + (k * L.sz + j) = o + ((k + 1) * L.sz + j) := by rw [Nat.add_mul]; omega
   rw [this])
  refine ⟨cs ++ xs, ⟨cs, xs, rfl, hc, hr⟩, fun j u hj => ?_⟩
  have hl := L.len hc
  by_cases hjl : j < cs.length
  ·rw [List.getElem?_append_left hjl] at hj
   have := hx j u hj
   rwa [Nat.zero_mul, Nat.zero_add] at this
  rw [List.getElem?_append_right (by omega)] at hj
  rw [<- hy _ u hj]
  have : o + L.sz + (j - cs.length) = o + j := by omega
  rw [this]
theorem Row.of_sl {w : World} {A : Option Addr} {n c : Nat} {l : List D} (h : Sl L w (.slice A n c) l) : ∃ xs, Row L w l xs /\ (0 < l.length -> ∃ b o, A = some ⟨b, o, none⟩ /\ ∀ j u, xs[j]? = some u -> w.cell? ⟨b, o + j, none⟩ = some u) := by
 by_cases hn : 0 < l.length
 ·obtain ⟨b, o, hA, hall⟩ := h.all hn
  obtain ⟨xs, hr, hx⟩ := row_of_all hall
  exact ⟨xs, hr, fun _ => ⟨b, o, hA, hx⟩⟩
 have : l = [] := List.eq_nil_of_length_eq_zero (by omega)
 subst this
 exact ⟨[], rfl, fun h => absurd h hn⟩
theorem Own.row {w : World} {B : Nat} {e : TypeId} {v : Value} {l : List D} {xs : List Value} (h : Own w B e L.sz v l.length xs) (hr : Row L w l xs) : Sl L w v l := by
 obtain ⟨A, c, rfl, h1, h2⟩ := h.form
 refine ⟨A, c, rfl, h1, h2, fun i d hi => ?_⟩
 obtain ⟨g, o, c', hv, _, _⟩ := h.addr (len_pos hi)
 injection hv with hA _ hc
 subst hA; subst hc
 obtain ⟨cs, hc, hx⟩ := hr.get hi
 exact ⟨g, o, cs, rfl, hc, fun j u hj => h.cell rfl (hx j u hj)⟩
end
theorem Row.flat {D : Type} {n : Nat} {ok : D -> Prop} {enc : D -> List Value} {hn : ∀ d, (enc d).length = n} {w : World} : ∀ {l : List D} {xs : List Value}, Row (flatL n ok enc hn) w l xs -> xs = l.flatMap enc /\ ∀ x ∈ l, ok x
 | [], xs, h => ⟨h, fun x hx => by simp at hx⟩
 | d :: l, xs, h => by
  obtain ⟨cs, ys, rfl, ⟨rfl, ho⟩, hr⟩ := h
  obtain ⟨rfl, hk⟩ := Row.flat hr
  refine ⟨by simp, fun x hx => ?_⟩
  rcases List.mem_cons.1 hx with rfl | hx
  ·exact ho
  exact hk x hx
theorem one_knd : OneL kndL := by
 rintro w d cs ⟨v, u, rfl, _, h2, h3⟩ x hx
 obtain ⟨_, _, rfl, _⟩ := h2
 obtain ⟨_, _, rfl, _⟩ := h3
 simp at hx
 rcases hx with rfl | rfl | rfl <;> rfl
theorem one_nod : OneL nodL := by
 rintro w d cs ⟨v, rfl, _, _, h3⟩ x hx
 obtain ⟨_, _, rfl, _⟩ := h3
 simp at hx
 rcases hx with rfl | rfl | rfl <;> rfl
theorem one_flat {D : Type} {n : Nat} {ok : D -> Prop} {enc : D -> List Value} {hn : ∀ d, (enc d).length = n} (h1 : ∀ d, ∀ u ∈ enc d, u.oneCell' = true) : OneL (flatL n ok enc hn) := by
 rintro w d cs ⟨rfl, _⟩ x hx
 exact h1 d x hx
theorem one_prp : OneL prpL := one_flat Prp.enc_one
theorem one_tie : OneL tieL := one_flat Tie.enc_one
def CloneR {D : Type} (L : Lay D) (e : TypeId) (l : List D) (w : World) (ed : Ending) (w' : World) : Prop :=
 ∃ v xs, ed = .returned v /\ Own w' w.heap.size e L.sz v l.length xs /\ Row L w l xs /\ Below w.heap.size w w'
theorem Own.made {w : World} {e : TypeId} {sz : Nat} : Own (w.alloc (.cells #[] e)) w.heap.size e sz (.slice (some ⟨w.heap.size, 0, none⟩) 0 0) 0 [] :=
 ⟨by simp, .inr ⟨_, 0, 0, #[], rfl, Nat.le_refl _, heap_alloc_new _ _, Nat.le_refl _, Nat.zero_le _, by simp, by simp⟩⟩
theorem clone_knds_info : (Tryz.prog.info? 80).map (fun i => (i.zero, i.size, i.bytes)) = some (some (.agg #[.string .empty, .slice none 0 0, .slice none 0 0]), 3, 64) := by kernel_rfl
set_option maxHeartbeats 2000000 in
theorem clone_knds {w : World} {v : Value} {l : List Knd} (hv : Sl kndL w v l) (hl : l.length <= 1048576) : Calls Tryz.prog 126 #[v] w (CloneR kndL 80 l w) := by
 obtain ⟨i0, ei, ez, ez1, ez2⟩ := info_parts clone_knds_info
 obtain ⟨A, c, rfl, _, _⟩ := hv.form
 obtain ⟨xs, hr, hx⟩ := Row.of_sl hv
 have hlen := hr.len
 have h1 := hr.oneCell one_knd
 have q22 : ∀ (w : World) (a : Option Addr) (n c n' c' : Nat), (binOp .eql 58 (.slice a n c) (.slice none n' c')).run Tryz.prog w = .ok (.bool a.isNone) w := fun w a n c n' c' => Lib.run_eql_slice_nil w _ _ a n c n' c' Tryz.underlying58
 cases A with
 | none =>
  have h0 : l = [] := by
   rcases Nat.eq_zero_or_pos l.length with h | h
   ·exact List.eq_nil_of_length_eq_zero h
   obtain ⟨_, _, hA, _⟩ := hx h; cases hA
  subst h0
  clear hv hr hx hlen h1
  go_enter Tryz.func126, Tryz.ntmps126
  go_wp2_with fail
  go_ret
  exact ⟨_, [], rfl, Own.nil _ _ _ _, rfl, Below.refl _ _⟩
 | some a =>
  have hX : Hid (0 < l.length -> ∃ b o, (some a : Option Addr) = some ⟨b, o, none⟩ /\ ∀ j u, xs[j]? = some u -> w.cell? ⟨b, o + j, none⟩ = some u) := hx
  have hR := Lib.hid hr
  have hL := Lib.hid hlen
  have h1H := Lib.hid h1
  clear hv hr hx hlen h1
  go_enter Tryz.func126, Tryz.ntmps126
  go_wp2_with (at_builtin; refine wpList_append_q _ rfl (.tmp 5) (.tmp 6) 58 rfl w.heap.size 80 i0 (.agg #[.string .empty, .slice none 0 0, .slice none 0 0]) 3 64 Tryz.underlying58 ei ez ez1 ez2 rfl (by decide) (.slice (some ⟨w.heap.size, 0, none⟩) 0 0) 0 [] rfl Own.made (some a) l.length c xs rfl hL.out (fun hp => by
   obtain ⟨b, o, hA, hy⟩ := hX.out hp
   exact ⟨_, hA, fun j u hj => by rw [addr_add]; exact cell_below ((Below.refl _ _).alloc (Nat.le_refl _) _) (hy j u hj)⟩) h1H.out (by unfold maxLen; omega) (by omega) (by simp) ?_; intro v7 w7 hown7 hg7 hat7)
  have hb7 : Below w.heap.size w w7 := ((Below.refl _ _).alloc (Nat.le_refl _) _).grown hg7 (by simp) (fun k hk => Nat.le_of_eq (by simpa [Value.ownBlock] using hk))
  simp only [Nat.zero_add, List.nil_append] at hown7
  clear hg7 hat7
  go_ret
  exact ⟨_, xs, rfl, hown7, hR.out, hb7⟩
def Same (T : TypeId) (w w' : World) : Prop := ∀ (k : Nat) c fr, w.heap[k]? = some (.cells c T fr) -> w'.heap[k]? = some (.cells c T fr)
theorem Same.refl (T : TypeId) (w : World) : Same T w w := fun _ _ _ h => h
theorem Same.trans {T : TypeId} {a b c : World} (h : Same T a b) (k : Same T b c) : Same T a c := fun i x fr hx => k i x fr (h i x fr hx)
theorem Same.below {T : TypeId} {w w' : World} (hb : Below w.heap.size w w') : Same T w w' := fun k _ _ h => (hb.block k (geB h)).trans h
theorem Same.alloc {T : TypeId} (w : World) (o : Obj) : Same T w (w.alloc o) := .below ((Below.refl _ _).alloc (Nat.le_refl _) _)
theorem Same.grown {T e : TypeId} {w w' : World} {B sz n : Nat} {v : Value} {xs : List Value} (ho : Own w B e sz v n xs) (hne : e ≠ T) (hg : w.grownBy w' v.ownBlock) : Same T w w' := fun k c fr h => by
 have hlt := (geB h)
 refine (hg.block k hlt fun e' => ?_).trans h
 rcases ho.2 with ⟨rfl, _⟩ | ⟨g, o, cap, cur, rfl, _, hg2, _⟩
 ·simp [Value.ownBlock] at e'
 simp [Value.ownBlock] at e'
 subst e'
 rw [h] at hg2
 injection hg2 with hg2
 injection hg2 with _ h2 _
 exact hne h2.symm
theorem Same.setCell {T e : TypeId} {w : World} {p : Addr} {c : Array Value} {fr : Nat × Nat} (hp : w.heap[p.block]? = some (.cells c e fr)) (hne : e ≠ T) (u : Value) : Same T w (w.setCell p u) := fun k c' fr' h => by
 refine (Below.heap_setCell w p u k (fun e' => ?_)).trans h
 subst e'
 rw [h] at hp
 injection hp with hp
 injection hp with _ h2 _
 exact hne h2.symm
theorem Own.same {w w' : World} {B : Nat} {e : TypeId} {sz : Nat} {v : Value} {n : Nat} {xs : List Value} (h : Own w B e sz v n xs) (hs : Same e w w') : Own w' B e sz v n xs := by
 refine ⟨h.1, ?_⟩
 rcases h.2 with hn | ⟨g, o, cap, cur, rfl, hb, hg, rest⟩
 ·exact .inl hn
 exact .inr ⟨g, o, cap, cur, rfl, hb, hs g cur _ hg, rest⟩
def OwnNods (w : World) (B : Nat) : List Nod -> List Value -> Prop
 | [], xs => xs = []
 | d :: l, xs => ∃ u ys, xs = [.int .i64 d.id, .string d.kind, u] ++ ys /\ I64 d.id /\ Sm d.kind /\ (∀ p ∈ d.props, p.ok) /\ Own w B 33 4 u d.props.length (d.props.flatMap Prp.enc) /\ OwnNods w B l ys
theorem OwnNods.same {w w' : World} {B : Nat} (hs : Same 33 w w') : ∀ {l : List Nod} {xs : List Value}, OwnNods w B l xs -> OwnNods w' B l xs
 | [], _, h => h
 | _ :: _, _, h => by
  obtain ⟨u, ys, rfl, h1, h2, h3, h4, h5⟩ := h
  exact ⟨u, ys, rfl, h1, h2, h3, h4.same hs, h5.same hs⟩
theorem OwnNods.snoc {w : World} {B : Nat} {d : Nod} {u : Value} (h1 : I64 d.id) (h2 : Sm d.kind) (h3 : ∀ p ∈ d.props, p.ok) (h4 : Own w B 33 4 u d.props.length (d.props.flatMap Prp.enc)) :
 ∀ {l : List Nod} {xs : List Value}, OwnNods w B l xs -> OwnNods w B (l ++ [d]) (xs ++ [.int .i64 d.id, .string d.kind, u])
 | [], xs, h => by rw [show xs = [] from h]; exact ⟨u, [], by simp, h1, h2, h3, h4, rfl⟩
 | e :: l, xs, h => by
  obtain ⟨v, ys, rfl, k1, k2, k3, k4, k5⟩ := h
  exact ⟨v, ys ++ [.int .i64 d.id, .string d.kind, u], by simp, k1, k2, k3, k4, k5.snoc h1 h2 h3 h4⟩
theorem OwnNods.row {w : World} {B : Nat} : ∀ {l : List Nod} {xs : List Value}, OwnNods w B l xs -> Row nodL w l xs
 | [], _, h => h
 | _ :: _, _, h => by
  obtain ⟨u, ys, rfl, h1, h2, h3, h4, h5⟩ := h
  exact ⟨_, ys, rfl, ⟨u, rfl, h1, h2, h4.prps h3⟩, h5.row⟩
theorem Own.nods {w : World} {B B' : Nat} {e : TypeId} {v : Value} {l : List Nod} {xs : List Value} (h : Own w B e 3 v l.length xs) (hn : OwnNods w B' l xs) : Sl nodL w v l := Own.row (L := nodL) h hn.row
theorem Own.ne_block {w : World} {B : Nat} {e e' : TypeId} {sz n k : Nat} {v : Value} {xs : List Value} {c : Array Value} {fr : Nat × Nat} (ho : Own w B e sz v n xs) (h : w.heap[k]? = some (.cells c e' fr)) (hne : e' ≠ e) : some k ≠ v.ownBlock := by
 intro e1
 rcases ho.2 with ⟨rfl, _⟩ | ⟨g, o, cap, cur, rfl, _, hg2, _⟩
 ·simp [Value.ownBlock] at e1
 simp [Value.ownBlock] at e1
 subst e1
 rw [h] at hg2
 injection hg2 with hg2
 injection hg2 with _ h2 _
 exact hne h2
theorem grown_block {w w' : World} {k : Nat} {row : Option Nat} {o : Obj} (hg : w.grownBy w' row) (h : w.heap[k]? = some o) (hne : some k ≠ row) : w'.heap[k]? = some o :=
 (hg.block k (geB h) hne).trans h
theorem block_cell {w : World} {k : Nat} {c : Array Value} {T : TypeId} {fr : Nat × Nat} (h : w.heap[k]? = some (.cells c T fr)) (i : Nat) : w.cell? ⟨k, i, none⟩ = c[i]? := by
 simp [World.cell?, h]
theorem block_free {w : World} {k : Nat} {c : Array Value} {T : TypeId} (h : w.heap[k]? = some (.cells c T (0, 0))) (i : Nat) : w.frozen? ⟨k, i, none⟩ = false := by
 simp [World.frozen?, h]
theorem setCell_block {w : World} {k : Nat} {c : Array Value} {T : TypeId} {fr : Nat × Nat} (h : w.heap[k]? = some (.cells c T fr)) (i : Nat) (u : Value) : (w.setCell ⟨k, i, none⟩ u).heap[k]? = some (.cells (c.setIfInBounds i u) T fr) := by
 simp [World.setCell, Array.getElem?_modify, h]
open Go.Maps (Keyed)
def IdsIs (D : DataW Unit) (S : Int -> Bool) : Prop := Maps.IsMap D /\ ∀ n : Int, I64 n -> D.atKey (.int .i64 n) (.lit (.bool false)) = .lit (.bool (S n)) /\ Maps.has D (.int .i64 n) = S n
theorem IdsIs.empty : IdsIs (.map []) (fun _ => false) := ⟨⟨[], rfl⟩, fun _ _ => ⟨rfl, rfl⟩⟩
theorem IdsIs.put {D : DataW Unit} {S : Int -> Bool} (h : IdsIs D S) {x : Int} (hk : WideAt.IsKeyLit (.int .i64 x)) : IdsIs (D.put (.int .i64 x) (.lit (.bool true))) (fun s => S s || decide (x = s)) := by
 refine ⟨h.1.put _ _, fun s hs => ?_⟩
 by_cases e : x = s
 ·subst e
  rw [Maps.atKey_put_same h.1 hk, Maps.has_put_same h.1 hk]
  simp
 have hne : (Lit.int .i64 s) ≠ .int .i64 x := fun e' => e (by injection e' with _ e'; exact e'.symm)
 rw [Maps.atKey_put_other hne, Maps.has_put_other hne, (h.2 s hs).1, (h.2 s hs).2]
 simp [e]
theorem wf_i64 {v : Int} (hv : I64 v) : (Lit.int .i64 v).wf = true := by
 obtain ⟨h1, h2⟩ := hv
 have e1 : IntKind.min .i64 = -9223372036854775808 := by decide
 have e2 : IntKind.max .i64 = 9223372036854775807 := by decide
 simp only [Lit.wf, Bool.and_eq_true, decide_eq_true_eq, e1, e2]
 exact ⟨h1, h2⟩
def MapB (w : World) (b n : Nat) (S : Int -> Bool) : Prop :=
 ∃ D : DataW Unit, w.ownsMap Tryz.prog 3 (plainElem Tryz.prog 4) b n D /\ IdsIs D S
theorem idsLaw : Keyed Tryz.prog 3 := Maps.int_keyed Tryz.underlying3
theorem MapB.made (w : World) : MapB (w.alloc (.map #[] 0)) w.heap.size 0 (fun _ => false) := ⟨_, World.ownsMap_made w _ _ _, IdsIs.empty⟩
theorem MapB.mono {w : World} {b n n' : Nat} {S : Int -> Bool} (h : MapB w b n S) (hn : n <= n') : MapB w b n' S := by
 obtain ⟨D, h1, h2⟩ := h
 exact ⟨D, h1.mono hn, h2⟩
theorem MapB.lt {w : World} {b n : Nat} {S : Int -> Bool} (h : MapB w b n S) : b < w.heap.size := by
 obtain ⟨D, h1, _⟩ := h
 exact h1.lt
set_option maxRecDepth 100000 in
theorem MapB.put {w : World} {b n : Nat} {S : Int -> Bool} (h : MapB w b n S) (hn : n < maxLen) {x : Int} (hx : I64 x) :
 ∃ w', (Instr.mapUpdate 144 (.map (some b)) (.int .i64 x) (.bool true)).run Tryz.prog w = .ok () w' /\ MapB w' b (n + 1) (fun t => S t || decide (x = t)) /\ w.grownBy w' (some b) := by
 obtain ⟨D, h1, h2⟩ := h
 have hkey := Maps.keyOf_int_mk Tryz.underlying3 (wf_i64 hx)
 obtain ⟨w', hrun, hm, hg⟩ := h1.update idsLaw Tryz.underlying144 hn hkey (plainElem_bool (H := Unit) Tryz.underlying4 true)
 exact ⟨w', hrun, ⟨_, hm, h2.put trivial⟩, hg⟩
theorem MapB.of_block {w w' : World} {b n : Nat} {S : Int -> Bool} (h : MapB w b n S) (hb : w'.heap[b]? = w.heap[b]?) : MapB w' b n S := by
 obtain ⟨D, ⟨es, clock, h1, h2⟩, h3⟩ := h
 exact ⟨D, ⟨es, clock, hb.trans h1, h2⟩, h3⟩
theorem MapB.below {w w' : World} {b n : Nat} {S : Int -> Bool} (h : MapB w b n S) (hb : Below w.heap.size w w') : MapB w' b n S := h.of_block (hb.block _ h.lt)
theorem MapB.is_map {w : World} {b n : Nat} {S : Int -> Bool} (h : MapB w b n S) : ∃ es c, w.heap[b]? = some (.map es c) := by
 obtain ⟨D, ⟨es, clock, h1, _⟩, _⟩ := h
 exact ⟨es, clock, h1⟩
theorem MapB.same {w w' : World} {b n : Nat} {S : Int -> Bool} (h : MapB w b n S) (hg : w.grownBy w' (some b)) (T : TypeId) : Same T w w' := fun k c fr hk => by
 refine (hg.block k (geB hk) fun e => ?_).trans hk
 injection e with e
 subst e
 obtain ⟨es, c2, h1⟩ := h.is_map
 rw [h1] at hk; cases hk
open Go Go.RowKit Go.Sort Go.Proofs
-- written by sortlay.py for the seat YtngbbefpphinjaaGreatDoor
def sortLay_ren : Go.Shelf.Ren := ⟨fun | 5 => 121 | 8 => 172 | 7 => 171 | 19 => 218 | 20 => 219 | 10 => 209 | 11 => 210 | 12 => 211 | 13 => 212 | 14 => 213 | 15 => 214 | 16 => 215 | 17 => 216 | 18 => 217 | 30 => 230 | 31 => 231 | 32 => 232 | 33 => 233 | 34 => 234 | 35 => 193 | 40 => 240 | n => n, fun | 23 => 71 | 25 => 3 | 3 => 3 | 32 => 265 | 22 => 71 | 0 => 0 | 44 => 318 | 46 => 320 | 4 => 4 | 36 => 312 | 35 => 311 | 41 => 170 | 5 => 5 | 9 => 9 | 53 => 326 | 57 => 330 | 63 => 337 | 64 => 338 | n => n, fun | n => n⟩
theorem sortLay : Go.Proofs.SlLaysM.n5 Tryz.prog sortLay_ren := {
 mixed := by kernel_rfl,
 f5 := ⟨Tryz.f121.name, by decide, Tryz.func121.trans (congrArg some (by kernel_rfl))⟩,
 f7 := ⟨Tryz.f171.name, by decide, Tryz.func171.trans (congrArg some (by kernel_rfl))⟩,
 f8 := Tryz.func172.trans (congrArg some (by kernel_rfl)),
 f10 := ⟨Tryz.f209.name, by decide, Tryz.func209.trans (congrArg some (by kernel_rfl))⟩,
 f11 := ⟨Tryz.f210.name, by decide, Tryz.func210.trans (congrArg some (by kernel_rfl))⟩,
 f12 := ⟨Tryz.f211.name, by decide, Tryz.func211.trans (congrArg some (by kernel_rfl))⟩,
 f13 := ⟨Tryz.f212.name, by decide, Tryz.func212.trans (congrArg some (by kernel_rfl))⟩,
 f14 := ⟨Tryz.f213.name, by decide, Tryz.func213.trans (congrArg some (by kernel_rfl))⟩,
 f15 := ⟨Tryz.f214.name, by decide, Tryz.func214.trans (congrArg some (by kernel_rfl))⟩,
 f16 := ⟨Tryz.f215.name, by decide, Tryz.func215.trans (congrArg some (by kernel_rfl))⟩,
 f17 := ⟨Tryz.f216.name, by decide, Tryz.func216.trans (congrArg some (by kernel_rfl))⟩,
 f18 := ⟨Tryz.f217.name, by decide, Tryz.func217.trans (congrArg some (by kernel_rfl))⟩,
 f19 := Tryz.func218.trans (congrArg some (by kernel_rfl)),
 f20 := Tryz.func219.trans (congrArg some (by kernel_rfl)),
 f30 := ⟨Tryz.f230.name, by decide, Tryz.func230.trans (congrArg some (by kernel_rfl))⟩,
 f31 := Tryz.func231.trans (congrArg some (by kernel_rfl)),
 f32 := Tryz.func232.trans (congrArg some (by kernel_rfl)),
 f33 := ⟨Tryz.f233.name, by decide, Tryz.func233.trans (congrArg some (by kernel_rfl))⟩,
 f34 := ⟨Tryz.f234.name, by decide, Tryz.func234.trans (congrArg some (by kernel_rfl))⟩,
 f35 := ⟨Tryz.f193.name, by decide, Tryz.func193.trans (congrArg some (by kernel_rfl))⟩,
 f40 := ⟨Tryz.f240.name, by decide, Tryz.func240.trans (congrArg some (by kernel_rfl))⟩,
 t0 := Tryz.underlying0,
 a0 := Tryz.isAgg0,
 z0 := Tryz.sizeOf0,
 v0 := Tryz.zeroValue0,
 t3 := Tryz.underlying3,
 a3 := Tryz.isAgg3,
 z3 := Tryz.sizeOf3,
 v3 := Tryz.zeroValue3,
 t4 := Tryz.underlying4,
 a4 := Tryz.isAgg4,
 z4 := Tryz.sizeOf4,
 v4 := Tryz.zeroValue4,
 t5 := Tryz.underlying5,
 a5 := Tryz.isAgg5,
 z5 := Tryz.sizeOf5,
 v5 := Tryz.zeroValue5,
 t9 := Tryz.underlying9,
 a9 := Tryz.isAgg9,
 z9 := Tryz.sizeOf9,
 v9 := Tryz.zeroValue9,
 t22 := Tryz.underlying71,
 a22 := Tryz.isAgg71,
 z22 := Tryz.sizeOf71,
 v22 := Tryz.zeroValue71,
 t23 := Tryz.underlying71,
 a23 := Tryz.isAgg71,
 z23 := Tryz.sizeOf71,
 v23 := Tryz.zeroValue71,
 t25 := Tryz.underlying3,
 a25 := Tryz.isAgg3,
 z25 := Tryz.sizeOf3,
 v25 := Tryz.zeroValue3,
 t32 := Tryz.underlying265,
 a32 := Tryz.isAgg265,
 z32 := Tryz.sizeOf265,
 v32 := Tryz.zeroValue265,
 t35 := Tryz.underlying311,
 a35 := Tryz.isAgg311,
 z35 := Tryz.sizeOf311,
 v35 := Tryz.zeroValue311,
 t36 := Tryz.underlying312,
 a36 := Tryz.isAgg312,
 z36 := Tryz.sizeOf312,
 v36 := Tryz.zeroValue312,
 t41 := Tryz.underlying170,
 a41 := Tryz.isAgg170,
 z41 := Tryz.sizeOf170,
 v41 := Tryz.zeroValue170,
 t44 := Tryz.underlying318,
 a44 := Tryz.isAgg318,
 z44 := Tryz.sizeOf318,
 v44 := Tryz.zeroValue318,
 t46 := Tryz.underlying320,
 a46 := Tryz.isAgg320,
 z46 := Tryz.sizeOf320,
 v46 := Tryz.zeroValue320,
 t53 := Tryz.underlying326,
 a53 := Tryz.isAgg326,
 z53 := Tryz.sizeOf326,
 v53 := Tryz.zeroValue326,
 t57 := Tryz.underlying330,
 a57 := Tryz.isAgg330,
 z57 := Tryz.sizeOf330,
 v57 := Tryz.zeroValue330,
 t63 := Tryz.underlying337,
 a63 := Tryz.isAgg337,
 z63 := Tryz.sizeOf337,
 v63 := Tryz.zeroValue337,
 t64 := Tryz.underlying338,
 a64 := Tryz.isAgg338,
 z64 := Tryz.sizeOf338,
 v64 := Tryz.zeroValue338 }
theorem heap_sorted_at {w : World} {g o n : Nat} {os : Array Obj} {cur : Array Value} {e : TypeId} {fr : Nat × Nat} (d : Array Int) (hb : w.heap[g]? = some (.cells cur e fr)) :
 (grow (putRow (Value.int .i64) (Sort.ahead w n) g o d) os).heap[g]? = some (.cells (putCells (Value.int .i64) o d cur) e fr) := by
 have hg : g < w.heap.size := (geB hb)
 rw [heap_grow_old _ _ (by simpa using hg)]
 simp [putRow, mapBlock, Sort.ahead, Array.getElem?_modify, hb, onCells]
theorem grownBy_sorted_at {w : World} {g o n : Nat} {os : Array Obj} (d : Array Int) : w.grownBy (grow (putRow (Value.int .i64) (Sort.ahead w n) g o d) os) (some g) := by
 refine ⟨rfl, rfl, rfl, by simp, fun k hk hne => ?_⟩
 rw [heap_grow_old _ _ (by simpa using hk)]
 have : g ≠ k := fun e => hne (by rw [e])
 simp [putRow, mapBlock, Sort.ahead, Array.getElem?_modify, this]
theorem putCells_at (o : Nat) (cur : Array Value) (ts : List Int) (h : o + ts.length <= cur.size) : ((putCells (Value.int .i64) o ts.toArray cur).toList.drop o).take ts.length = ts.map (Value.int .i64) := by
 apply List.ext_getElem?
 intro j
 by_cases hj : j < ts.length
 ·rw [List.getElem?_take_of_lt hj, List.getElem?_drop, Array.getElem?_toList]
  simp [putCells, hj, show o + j < cur.size by omega]
 rw [List.getElem?_take_eq_none (by omega), List.getElem?_eq_none (by simp; omega)]
def sortI (l : List Int) : List Int := l.mergeSort fun x y => decide (x <= y)
theorem sortI_perm (l : List Int) : (sortI l).Perm l := List.mergeSort_perm _ _
theorem sortI_len (l : List Int) : (sortI l).length = l.length := (sortI_perm l).length_eq
theorem sortInts_any (l : List Int) (v : Value) (B : Nat) (w : World) (h : Own w B 3 1 v l.length (l.map (Value.int .i64))) (hl : l.length < 4611686018427387904) :
 Calls Tryz.prog 121 #[v] w fun e w' => e = .returned (.tuple #[]) /\ Own w' B 3 1 v (sortI l).length ((sortI l).map (Value.int .i64)) /\ w.grownBy w' v.ownBlock := by
 have hlen := sortI_len l
 have hx := h
 rcases h.2 with ⟨rfl, h0⟩ | ⟨g, o, cap, cur, rfl, hb, hg, h1, h2, h3, h4⟩
 ·obtain rfl : l = [] := List.length_eq_zero_iff.1 h0
  have hc := AnyM.slices_Sort_int_none sortLay none 0 w
  change Calls Tryz.prog 121 #[.slice none 0 0] w _ at hc
  refine hc.mono ?_
  rintro e w' ⟨rfl, rfl⟩
  exact ⟨rfl, by simpa [sortI] using hx, grownBy_refl _ _⟩
 have hH : Holds (Value.int .i64) w g o l.toArray := by
  intro j hj
  have hj' : j < l.length := by simpa using hj
  refine ⟨?_, hx.frozen rfl _⟩
  have := hx.cell rfl (j := j) (u := .int .i64 l[j]) (by simp [hj'])
  rw [this]
  simp [hj']
 have hc := AnyM.slices_Sort_int sortLay g o cap l w hH (geB hg) hl
 change Calls Tryz.prog 121 #[.slice (some ⟨g, o, none⟩) l.length cap] w _ at hc
 refine hc.mono ?_
 rintro e w' ⟨rfl, n, os, rfl⟩
 refine ⟨rfl, ⟨by simp, .inr ⟨g, o, cap, _, by rw [hlen], hb, heap_sorted_at _ hg, by omega, h2, ?_, ?_⟩⟩, grownBy_sorted_at _⟩
 ·have : (putCells (Value.int .i64) o (sortI l).toArray cur).size = cur.size := by simp [putCells]
  show o + cap * 1 <= (putCells (Value.int .i64) o (sortI l).toArray cur).size
  omega
 rw [Nat.mul_one]
 exact putCells_at o cur (sortI l) (by omega)
end Go.Proofs.YtngbbefpphinjaaGreatDoor
