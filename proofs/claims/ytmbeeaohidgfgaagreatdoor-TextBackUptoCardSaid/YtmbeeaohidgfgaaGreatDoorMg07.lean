/- Parts: Qm, InsA, CloA. -/
import Derived.Test.YtmbeeaohidgfgaaGreatDoorMg06
import Derived.Test.YtmbeeaohidgfgaaGreatDoorMg05
import Derived.Lib.AppendZerosOnto
import Derived.Lib.Overlaps
import Derived.WalkSpells
import Derived.Test.YtmbeeaohidgfgaaGreatDoorRows
import Derived.Lib.SliceRun
/- A region that draws its order: first operations that only read, then one that may do anything, then again operations that only read: one walk in the order of the text serves every order. Conditions: the Bool on the region. -/
namespace Go.Proofs.YtmbeeaohidgfgaaGreatDoor
open Go Go.RowKit Go.Sort
section
variable {P : Program} {ops : Array Oper} {md : Region.Mode} {C : World → Prop}

/-- Each operation behind n waits for one from n on. -/
def tailB (md : Region.Mode) (ops : Array Oper) (n : Nat) : Bool :=
  (List.range ops.size).all fun t => decide (t ≤ n) || (List.range t).any fun j => decide (n ≤ j) && Region.waitsFor md ops t j

theorem tail_waits2 {n : Nat} {listed : Array Bool} (hs : Region.sinkB md ops n = true) (hc : tailB md ops n = true) (hn : n < ops.size) (inv : HeadInv md ops n listed) :
    ∀ (d i : Nat), n - i = d → i < n → listed.getD i true = false → ∀ t, n ≤ t → t ∉ Region.ready md ops listed := by
  intro d
  induction d using Nat.strongRecOn with
  | _ d ih =>
    intro i hd hi hun t ht hr
    obtain ⟨_, ot, hot, hall⟩ := mem_ready.1 hr
    have htlt : t < ops.size := (Array.getElem?_eq_some_iff.1 hot).1
    by_cases htn : t = n
    · subst htn
      have h1 := List.all_eq_true.1 hs i (List.mem_range.2 hi)
      obtain ⟨j, hj, hj2⟩ := List.any_eq_true.1 h1
      simp only [Bool.and_eq_true, decide_eq_true_eq] at hj2
      obtain ⟨oj, hoj, e, he, hb, hon⟩ := Region.waitsFor_spec hj2.2
      have hjle : j ≤ t := by have := List.mem_range.1 hj; omega
      by_cases hjt : j = t
      · subst hjt
        have : oj = ot := Option.some.inj (hoj.symm.trans hot)
        subst this
        have h2 := hall e he hb
        rw [hon, getD_both hun] at h2
        cases h2
      · cases hl : listed.getD j false with
        | true =>
          have h2 := inv.closed j oj hoj hl e he hb
          rw [hon, getD_both hun] at h2
          cases h2
        | false =>
          have hjs : j < listed.size := by rw [inv.size]; omega
          exact ih (t - j) (by omega) j rfl (by omega) (getD_in hjs hl) t (Nat.le_refl _) hr
    · have h1 := List.all_eq_true.1 hc t (List.mem_range.2 htlt)
      simp only [Bool.or_eq_true, decide_eq_true_eq] at h1
      rcases h1 with h1 | h1
      · omega
      · obtain ⟨j, hj, hj2⟩ := List.any_eq_true.1 h1
        simp only [Bool.and_eq_true, decide_eq_true_eq] at hj2
        have hjt := List.mem_range.1 hj
        obtain ⟨o', ho', e, he, hb, hon⟩ := Region.waitsFor_spec hj2.2
        have : o' = ot := Option.some.inj (ho'.symm.trans hot)
        subst this
        have h2 := hall e he hb
        rw [hon, getD_both (inv.tail j hj2.1 (by omega))] at h2
        cases h2

theorem wpAnyLQ_first2 {n i : Nat} {oi : Oper} {v : Value} {L : Array Bool → Act → Prop} (hi : ops[i]? = some oi) (hsel : ∀ (j : Nat) (o : Oper) cs b, ops[j]? = some o → o.op ≠ .select cs b)
    (hs : Region.sinkB md ops n = true) (hc : tailB md ops n = true) (hn : n < ops.size) (hin : i < n)
    (hdone : ∀ listed a, L listed a → ∀ j ∈ Region.ready md ops listed, n ≤ j) :
    ∀ (f : Nat) (listed : Array Bool) (a : Act), HeadInv md ops n listed →
      (∀ j oj, ops[j]? = some oj → j ≠ i → listed.getD j true = false → (∀ e ∈ oj.after, Region.binds md e = true → e.on ≠ i) → oi.apart ops oj = true) →
      i ∈ Region.ready md ops listed → YieldsIn P ops C oi v a →
      wpAnyLQ P md ops C n L f (listed.setIfInBounds i true) (a.put oi.dst v) → wpAnyLQ P md ops C n L (f + 1) listed a := by
  intro f
  induction f with
  | zero =>
    intro listed a inv _ hr hy H
    have hun := (mem_ready.1 hr).1
    refine ⟨fun h => (by rw [h] at hr; cases hr), fun j hj => ?_⟩
    have hjn : j < n := by
      rcases Nat.lt_or_ge j n with h | h
      · exact h
      · exact absurd hj (tail_waits2 hs hc hn inv _ i rfl hin hun j h)
    refine ⟨hjn, ?_⟩
    by_cases hji : j = i
    · subst hji; exact hy.qOp hi H
    · have := hdone _ _ H j (ready_mono hj hji)
      omega
  | succ f ih =>
    intro listed a inv hfree hr hy H
    have hun := (mem_ready.1 hr).1
    refine ⟨fun h => (by rw [h] at hr; cases hr), fun j hj => ?_⟩
    have hjn : j < n := by
      rcases Nat.lt_or_ge j n with h | h
      · exact h
      · exact absurd hj (tail_waits2 hs hc hn inv _ i rfl hin hun j h)
    refine ⟨hjn, ?_⟩
    by_cases hji : j = i
    · subst hji; exact hy.qOp hi H
    · have h1 := (H.2 j (ready_mono hj hji)).2
      obtain ⟨hjun, oj, hoj, hall⟩ := mem_ready.1 hj
      have hnot : ∀ e ∈ oj.after, Region.binds md e = true → e.on ≠ i := fun e he hb heq => by
        have h1 := hall e he hb
        rw [heq, getD_both hun] at h1
        cases h1
      have h2 := qOp_put hoj (hfree j oj hoj hji hjun hnot) (fun cs b => hsel i oi cs b hi) (fun cs b => hsel j oj cs b hoj) hy h1
      have hfree' : ∀ k ok, ops[k]? = some ok → k ≠ i → (listed.setIfInBounds j true).getD k true = false →
          (∀ e ∈ ok.after, Region.binds md e = true → e.on ≠ i) → oi.apart ops ok = true := fun k ok hk hki hun hno => by
        refine hfree k ok hk hki ?_ hno
        by_cases hjk : j = k
        · subst hjk; exact hjun
        · rw [getD_set_ne true hjk] at hun; exact hun
      refine qOp_mono (fun a' h3 => ih (listed.setIfInBounds j true) a' (inv.set hj hjn) hfree' (ready_mono hr (Ne.symm hji)) h3.1 ?_) h2
      rw [Array.setIfInBounds_comm _ _ hji]
      exact h3.2

/-- What is left of the order when the first n are listed: n alone, then the rest in the order of the text. -/
def midRest (md : Region.Mode) (ops : Array Oper) (g n : Nat) (listed : Array Bool) : Bool :=
  decide (Region.ready md ops listed = [n]) && Region.lexFrom md ops g (n + 1) (listed.setIfInBounds n true)
def midHead (md : Region.Mode) (ops : Array Oper) (g n : Nat) : Nat → Nat → Array Bool → Bool
  | 0, _, listed => midRest md ops g n listed
  | f + 1, k, listed => (Region.ready md ops listed).contains k && Region.free md ops listed k && midHead md ops g n f (k + 1) (listed.setIfInBounds k true)
def midB (md : Region.Mode) (ops : Array Oper) (n : Nat) : Bool :=
  Region.noSelect ops && decide (n < ops.size) && Region.sinkB md ops n && tailB md ops n && midHead md ops (ops.size - n - 1) n n 0 (Array.replicate ops.size false)

theorem wpAnyLQ_lex2 {n g : Nat} {Lq : Act → Prop} (hsel : Region.noSelect ops = true) (hs : Region.sinkB md ops n = true) (hc : tailB md ops n = true) (hn : n < ops.size) :
    ∀ (l : List Oper) (k : Nat) (listed : Array Bool) (a : Act), (∀ j, j < l.length → l[j]? = ops[k + j]?) → k + l.length = n → HeadInv md ops n listed →
    midHead md ops g n l.length k listed = true → wpQuiet P ops C Lq l a →
    wpAnyLQ P md ops C n (fun listed' a' => midRest md ops g n listed' = true ∧ Lq a') l.length listed a
  | [], k, listed, a, _, _, _, hB, h => ⟨by simpa [midHead] using hB, h⟩
  | o :: l, k, listed, a, hl, hk, inv, hB, h => by
    have h0 : ops[k]? = some o := by simpa using (hl 0 (by simp)).symm
    simp only [List.length_cons, midHead, Bool.and_eq_true] at hB
    obtain ⟨⟨hr, hf⟩, hB'⟩ := hB
    have hkn : k < n := by simp only [List.length_cons] at hk; omega
    have hr' : k ∈ Region.ready md ops listed := by simpa using hr
    have hst : qOp P ops C k (wpQuiet P ops C Lq l) a := by unfold qOp; simp only [h0]; exact h
    obtain ⟨v, hy, hK⟩ := yieldsIn_of_qOp h0 hst
    exact wpAnyLQ_first2 h0 (Region.noSelect_spec hsel) hs hc hn hkn (fun listed' a' hL => by
        have h2 := hL.1
        simp only [midRest, Bool.and_eq_true, decide_eq_true_eq] at h2
        intro j hj
        rw [h2.1] at hj
        have : j = n := by simpa using hj
        omega) l.length listed a inv (Region.free_spec h0 hf) hr' hy
      (wpAnyLQ_lex2 hsel hs hc hn l (k + 1) _ _ (fun j hj => by have := hl (j + 1) (by simp; omega); simpa [Nat.add_assoc, Nat.add_comm 1 j] using this) (by simp only [List.length_cons] at hk; omega) (inv.set hr' hkn) hB' hK)

theorem wp_region_mid {id : Nat} {Q : Exit → Act → World → Prop} {a : Act} {w : World} {l : List Oper} (n : Nat) (om : Oper) (hom : l[n]? = some om) (hgd : om.guard = none) (hm : P.follows .mixedOrders = true) (hB : midB .any l.toArray n = true)
    (hC : C { w with drawn := w.drawn + 1 })
    (h : wpQuiet P l.toArray C (fun a' => ∀ w', C w' → om.wp P a' w' (fun a2 w2 => wpQuiet P l.toArray (fun x => ∃ n, x = w2.drewN n) (fun a3 => ∀ w3, (∃ n, w3 = w2.drewN n) → Q .normal a3 w3) (l.drop (n + 1)) a2) Q) (l.take n) a) : (Code.region id l.toArray true).wp P Q a w := by
  simp only [midB, Bool.and_eq_true, decide_eq_true_eq] at hB
  obtain ⟨⟨⟨⟨hsel, hn⟩, hs⟩, hc⟩, hlex⟩ := hB
  have hn' : n < l.length := by simpa using hn
  have htl : (l.take n).length = n := by simp; omega
  have hdl : (l.drop (n + 1)).length = l.toArray.size - n - 1 := by simp; omega
  have inv0 : HeadInv .any l.toArray n (Array.replicate l.toArray.size false) :=
    ⟨by simp, fun j oj _ hl => (by rw [getD_replicate_false] at hl; cases hl), fun t _ ht => getD_in (by simpa using ht) (getD_replicate_false _ _)⟩
  have H := wpAnyLQ_lex2 (C := C) (md := .any) (g := l.toArray.size - n - 1) hsel hs hc hn (l.take n) 0 _ a (fun j hj => by
    have hj' : j < n := by rw [htl] at hj; exact hj
    simp [hj']) (by simpa using htl) inv0 (by rw [htl]; exact hlex) h
  refine wp_region_any hm ?_
  have key := wpAny_of_headQ (C := C) (Q' := Q) (g := l.toArray.size - n - 1 + 1) (fun listed a' w' hw' hL => by
    have h1 := hL.1
    simp only [midRest, Bool.and_eq_true, decide_eq_true_eq] at h1
    refine ⟨fun h0 => (by rw [h1.1] at h0; cases h0), fun i hi => ?_⟩
    rw [h1.1] at hi
    obtain rfl : i = n := by simpa using hi
    have h0 : l.toArray[i]? = some om := by simpa using hom
    unfold wpOp
    simp only [h0]
    have hw : Region.wanted om (yielded l.toArray a'.tmps) = true := by simp [Region.wanted, hgd]
    simp only [hw, if_true]
    refine .inl ?_
    have h2 := hL.2 w' hw'
    unfold Oper.wp at h2 ⊢
    generalize (execOp a'.eval om).run P w' = r at h2 ⊢
    have step : ∀ a2 w2, wpQuiet P l.toArray (fun x => ∃ n, x = w2.drewN n) (fun a3 => ∀ w3, (∃ n, w3 = w2.drewN n) → Q .normal a3 w3) (l.drop (i + 1)) a2 →
        wpAny P .any l.toArray Q (l.toArray.size - i - 1) (listed.setIfInBounds i true) a2 w2 := fun a2 w2 hq => by
      have h3 := wpAnyQ_lex (C := fun x => ∃ n, x = w2.drewN n) (md := .any) hsel (l.drop (i + 1)) (i + 1) (listed.setIfInBounds i true) a2 (fun j => by simp [List.getElem?_drop]) (by rw [hdl]; exact h1.2) hq
      rw [hdl] at h3
      exact wpAny_of_quiet (Q := fun a3 => ∀ w3, (∃ n, w3 = w2.drewN n) → Q .normal a3 w3) (fun _ w3 hw3 h => h w3 hw3) _ _ _ _ ⟨0, rfl⟩ h3
    cases r with
    | ok nx w2 =>
      cases nx <;> simp only [Oper.upon] at h2 ⊢
      case value v => exact step _ _ h2
      case skip => exact step _ _ h2
      case defer d => exact step _ _ h2
      case enter f args =>
        refine h2.mono fun e w3 h3 => ?_
        cases e with
        | returned v => exact step _ _ h3
        | panicked c => exact h3
        | outgrown => exact h3
      case row r args => exact h2.mono fun v w3 h3 => step _ _ h3
      all_goals first | exact h2.elim | exact h2
    | halt hh w2 =>
      cases hh <;> simp only [Oper.upon] at h2 ⊢
      all_goals first | exact h2 | exact h2.elim) _ _ _ _ hC H
  rw [htl, show n + (l.toArray.size - n - 1 + 1) = l.toArray.size by simp only [List.size_toArray]; omega] at key
  exact key

theorem wp_mid_drew {id : Nat} {Q : Exit → Act → World → Prop} {a : Act} {w : World} {l : List Oper} (n : Nat) (om : Oper) (hom : l[n]? = some om) (hgd : om.guard = none) (hm : P.follows .mixedOrders = true) (hB : midB .any l.toArray n = true)
    (h : wpQuiet P l.toArray (fun w' => ∃ n, w' = w.drewN n) (fun a' => ∀ w', (∃ n, w' = w.drewN n) → om.wp P a' w' (fun a2 w2 => wpQuiet P l.toArray (fun x => ∃ n, x = w2.drewN n) (fun a3 => ∀ w3, (∃ n, w3 = w2.drewN n) → Q .normal a3 w3) (l.drop (n + 1)) a2) Q) (l.take n) a) : (Code.region id l.toArray true).wp P Q a w :=
  wp_region_mid (C := fun w' => ∃ n, w' = w.drewN n) n om hom hgd hm hB ⟨1, rfl⟩ h
theorem quiet_mono {o : Oper} {K K' : Act → Prop} {a : Act} (h : ∀ a, K a → K' a) (hq : o.quiet P a C K) : o.quiet P a C K' := by
  unfold Oper.quiet at hq ⊢
  obtain ⟨v, h1, h2⟩ := hq
  exact ⟨v, h1, h _ h2⟩
theorem wpQuiet_mono {K K' : Act → Prop} (h : ∀ a, K a → K' a) : ∀ (l : List Oper) (a : Act), wpQuiet P ops C K l a → wpQuiet P ops C K' l a
  | [], a, hq => h a hq
  | o :: l, a, hq => by
    unfold wpQuiet at hq ⊢
    split
    · rename_i hw
      rw [if_pos hw] at hq
      exact quiet_mono (fun a => wpQuiet_mono h l a) hq
    · rename_i hw
      rw [if_neg hw] at hq
      exact wpQuiet_mono h l _ hq
theorem wp_mid_k {id : Nat} {Q : Exit → Act → World → Prop} {a : Act} {w : World} {l : List Oper} (n : Nat) (om : Oper) (hom : l[n]? = some om) (hgd : om.guard = none) (hm : P.follows .mixedOrders = true) (hB : midB .any l.toArray n = true)
    (h : wpQuiet P l.toArray (fun w' => ∃ n, w' = w.drewN n) (fun a' => ∀ w', (∃ n, w' = w.drewN n) → ∀ K : Act → World → Prop, (∀ a2 w2, wpQuiet P l.toArray (fun x => ∃ n, x = w2.drewN n) (fun a3 => ∀ w3, (∃ n, w3 = w2.drewN n) → Q .normal a3 w3) (l.drop (n + 1)) a2 → K a2 w2) → om.wp P a' w' K Q) (l.take n) a) : (Code.region id l.toArray true).wp P Q a w :=
  wp_mid_drew n om hom hgd hm hB (wpQuiet_mono (fun _ h w' hw' => h w' hw' _ fun _ _ h => h) _ _ h)
end
open Go Go.RowKit

theorem addr_add (b o n : Nat) : (⟨b, o, none⟩ : Addr).add n = ⟨b, o + n, none⟩ := by
  unfold Addr.add
  split
  · rename_i h; subst h; rfl
  · rfl

/-! ### Lists -/
/-- What stands in the place of what it covers. -/
def lay {α : Type} (cur : List α) (o : Nat) (cs : List α) : List α := cur.take o ++ cs ++ cur.drop (o + cs.length)

section
variable {D : Type} {L : Lay D}
/-- The cells xs are the list's, one behind the other. -/
def Row (L : Lay D) (w : World) : List D → List Value → Prop
  | [], xs => xs = []
  | d :: l, xs => ∃ cs ys, xs = cs ++ ys ∧ L.cells w d cs ∧ Row L w l ys
theorem Row.nil (w : World) : Row L w [] [] := rfl
theorem Row.len {w : World} : ∀ {l : List D} {xs : List Value}, Row L w l xs → xs.length = l.length * L.sz
  | [], xs, h => by rw [show xs = [] from h]; simp
  | d :: l, xs, h => by
    obtain ⟨cs, ys, rfl, hc, hr⟩ := h
    rw [List.length_append, L.len hc, hr.len, List.length_cons, Nat.add_mul]; omega
theorem Row.one {w : World} {d : D} {cs : List Value} (h : L.cells w d cs) : Row L w [d] cs := ⟨cs, [], by simp, h, rfl⟩
theorem Row.append {w : World} : ∀ {l m : List D} {xs ys : List Value}, Row L w l xs → Row L w m ys → Row L w (l ++ m) (xs ++ ys)
  | [], m, xs, ys, h, k => by rw [show xs = [] from h]; simpa using k
  | d :: l, m, xs, ys, h, k => by
    obtain ⟨cs, zs, rfl, hc, hr⟩ := h
    exact ⟨cs, zs ++ ys, by simp, hc, hr.append k⟩
theorem Row.below {w w' : World} (hb : Below w.heap.size w w') : ∀ {l : List D} {xs : List Value}, Row L w l xs → Row L w' l xs
  | [], _, h => h
  | _ :: _, _, h => by
    obtain ⟨cs, zs, rfl, hc, hr⟩ := h
    exact ⟨cs, zs, rfl, L.below hb hc, hr.below hb⟩
theorem Row.split {w : World} : ∀ {l : List D} {xs : List Value} (i : Nat), i ≤ l.length → Row L w l xs → Row L w (l.take i) (xs.take (i * L.sz)) ∧ Row L w (l.drop i) (xs.drop (i * L.sz))
  | l, xs, 0, _, h => by simpa using ⟨Row.nil w, h⟩
  | [], xs, i + 1, hi, h => by simp at hi
  | d :: l, xs, i + 1, hi, h => by
    obtain ⟨cs, ys, rfl, hc, hr⟩ := h
    have hl := L.len hc
    obtain ⟨h1, h2⟩ := hr.split i (by simpa using hi)
    have e : (i + 1) * L.sz = cs.length + i * L.sz := by rw [hl, Nat.add_mul]; omega
    rw [e, List.take_length_add_append, List.drop_length_add_append]
    exact ⟨⟨cs, _, rfl, hc, h1⟩, h2⟩
theorem Row.take {w : World} {l : List D} {xs : List Value} (h : Row L w l xs) (i : Nat) (hi : i ≤ l.length) : Row L w (l.take i) (xs.take (i * L.sz)) := (h.split i hi).1
theorem Row.drop {w : World} {l : List D} {xs : List Value} (h : Row L w l xs) (i : Nat) (hi : i ≤ l.length) : Row L w (l.drop i) (xs.drop (i * L.sz)) := (h.split i hi).2
theorem Row.get {w : World} : ∀ {l : List D} {xs : List Value} {i : Nat} {d : D}, Row L w l xs → l[i]? = some d → ∃ cs, L.cells w d cs ∧ ∀ j u, cs[j]? = some u → xs[i * L.sz + j]? = some u
  | [], _, i, d, _, h => by simp at h
  | e :: l, xs, 0, d, h, hd => by
    obtain ⟨cs, ys, rfl, hc, hr⟩ := h
    simp at hd; subst hd
    exact ⟨cs, hc, fun j u hj => by rw [Nat.zero_mul, Nat.zero_add, List.getElem?_append_left (List.getElem?_eq_some_iff.1 hj).1]; exact hj⟩
  | e :: l, xs, i + 1, d, h, hd => by
    obtain ⟨cs, ys, rfl, hc, hr⟩ := h
    obtain ⟨cs', hc', hx⟩ := hr.get (i := i) (by simpa using hd)
    refine ⟨cs', hc', fun j u hj => ?_⟩
    have hl := L.len hc
    rw [List.getElem?_append_right (by rw [hl, Nat.add_mul]; omega)]
    have : (i + 1) * L.sz + j - cs.length = i * L.sz + j := by rw [hl, Nat.add_mul]; omega
    rw [this]
    exact hx j u hj
theorem Row.snoc {w : World} {l : List D} {xs cs : List Value} {d : D} (h : Row L w l xs) (hc : L.cells w d cs) : Row L w (l ++ [d]) (xs ++ cs) := h.append (Row.one hc)
theorem Own.row {w : World} {B : Nat} {e : TypeId} {v : Value} {l : List D} {xs : List Value} (h : Own w B e L.sz v l.length xs) (hr : Row L w l xs) : Sl L w v l := by
  obtain ⟨A, c, rfl, h1, h2⟩ := h.form
  refine ⟨A, c, rfl, h1, h2, fun i d hi => ?_⟩
  obtain ⟨g, o, c', hv, _, _⟩ := h.addr (len_pos hi)
  injection hv with hA _ hc
  subst hA; subst hc
  obtain ⟨cs, hc, hx⟩ := hr.get hi
  exact ⟨g, o, cs, rfl, hc, fun j u hj => h.cell rfl (hx j u hj)⟩
end
theorem Row.flat {D : Type} {n : Nat} {ok : D → Prop} {enc : D → List Value} {hn : ∀ d, (enc d).length = n} {w : World} : ∀ {l : List D} {xs : List Value}, Row (flatL n ok enc hn) w l xs → xs = l.flatMap enc ∧ ∀ x ∈ l, ok x
  | [], xs, h => ⟨h, fun x hx => by simp at hx⟩
  | d :: l, xs, h => by
    obtain ⟨cs, ys, rfl, ⟨rfl, ho⟩, hr⟩ := h
    obtain ⟨rfl, hk⟩ := Row.flat hr
    refine ⟨by simp, fun x hx => ?_⟩
    rcases List.mem_cons.1 hx with rfl | hx
    · exact ho
    · exact hk x hx
theorem Own.made {w : World} {e : TypeId} {sz : Nat} : Own (w.alloc (.cells #[] e)) w.heap.size e sz (.slice (some ⟨w.heap.size, 0, none⟩) 0 0) 0 [] :=
  ⟨by simp, .inr ⟨_, 0, 0, #[], rfl, Nat.le_refl _, heap_alloc_new _ _, Nat.le_refl _, Nat.zero_le _, by simp, by simp⟩⟩

end Go.Proofs.YtmbeeaohidgfgaaGreatDoor
