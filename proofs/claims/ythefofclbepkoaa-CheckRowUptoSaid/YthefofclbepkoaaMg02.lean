/- Parts: OwnF, Qt, Qm. -/
import Derived.Test.YthefofclbepkoaaMg01
import Derived.StillTail
import Derived.BigQuiet
import Derived.Lib.QuietBelow
/- Plain: rows of flat structs that a call owns: they read as the list; one more in between. No condition. -/
namespace Go.Proofs.Ythefofclbepkoaa
open Go.RowKit

section
variable {D : Type} {n : Nat} {enc : D → List Value}
theorem flat_len (hn : ∀ d, (enc d).length = n) : ∀ (l : List D), (l.flatMap enc).length = l.length * n
  | [] => by simp
  | a :: l => by rw [List.flatMap_cons, List.length_append, hn, flat_len hn l, List.length_cons, Nat.add_mul]; omega
theorem flat_get (hn : ∀ d, (enc d).length = n) : ∀ {l : List D} {i j : Nat} {d : D} {u : Value}, l[i]? = some d → (enc d)[j]? = some u → (l.flatMap enc)[i * n + j]? = some u
  | [], i, j, d, u, h, _ => by simp at h
  | a :: l, 0, j, d, u, h, hu => by
    simp at h; subst h
    rw [List.flatMap_cons, Nat.zero_mul, Nat.zero_add, List.getElem?_append_left (List.getElem?_eq_some_iff.1 hu).1]; exact hu
  | a :: l, i + 1, j, d, u, h, hu => by
    rw [List.flatMap_cons, List.getElem?_append_right (by rw [hn, Nat.add_mul]; omega), hn]
    have : (i + 1) * n + j - n = i * n + j := by rw [Nat.add_mul]; omega
    rw [this]
    exact flat_get hn (by simpa using h) hu
theorem flat_take (hn : ∀ d, (enc d).length = n) (l : List D) (i : Nat) (hi : i ≤ l.length) : (l.flatMap enc).take (i * n) = (l.take i).flatMap enc := by
  conv => lhs; rw [← List.take_append_drop i l]
  rw [List.flatMap_append, List.take_append_of_le_length (by rw [flat_len hn]; simp [Nat.min_eq_left hi]), List.take_of_length_le (by rw [flat_len hn]; simp [Nat.min_eq_left hi])]
theorem flat_drop (hn : ∀ d, (enc d).length = n) (l : List D) (i : Nat) (hi : i ≤ l.length) : (l.flatMap enc).drop (i * n) = (l.drop i).flatMap enc := by
  conv => lhs; rw [← List.take_append_drop i l]
  rw [List.flatMap_append, List.drop_append_of_le_length (by rw [flat_len hn]; simp [Nat.min_eq_left hi]), List.drop_of_length_le (by rw [flat_len hn]; simp [Nat.min_eq_left hi]), List.nil_append]
theorem flat_insert (hn : ∀ d, (enc d).length = n) (l : List D) (i : Nat) (hi : i ≤ l.length) (d : D) :
    (l.flatMap enc).take (i * n) ++ enc d ++ (l.flatMap enc).drop (i * n) = (l.take i ++ d :: l.drop i).flatMap enc := by
  rw [flat_take hn l i hi, flat_drop hn l i hi, List.flatMap_append, List.flatMap_cons, List.append_assoc]
theorem flat_snoc (l : List D) (d : D) : l.flatMap enc ++ enc d = (l ++ [d]).flatMap enc := by simp
theorem Own.flat {w : World} {B : Nat} {e : TypeId} {v : Value} {l : List D} {ok : D → Prop} (hn : ∀ d, (enc d).length = n) (hl : ∀ x ∈ l, ok x) (h : Own w B e n v l.length (l.flatMap enc)) : Sl (flatL n ok enc hn) w v l := by
  obtain ⟨A, c, rfl, h1, h2⟩ := h.form
  refine ⟨A, c, rfl, h1, h2, fun i d hi => ?_⟩
  obtain ⟨g, o, c', hv, _, _⟩ := h.addr (len_pos hi)
  injection hv with hA _ hc
  subst hA; subst hc
  exact ⟨g, o, _, rfl, ⟨rfl, hl d (List.mem_of_getElem? hi)⟩, fun j u hj => h.cell rfl (flat_get hn hi hj)⟩
theorem sl_block {W : World} {b : Nat} {t : TypeId} {fr : Nat × Nat} {ok : D → Prop} (hn : ∀ d, (enc d).length = n) (l : List D) (hl : ∀ x ∈ l, ok x) (c : Nat) (h1 : l.length ≤ c) (h2 : c ≤ maxLen) (h : W.heap[b]? = some (.cells (l.flatMap enc).toArray t fr)) : Sl (flatL n ok enc hn) W (.slice (some ⟨b, 0, none⟩) l.length c) l :=
  ⟨_, c, rfl, h1, h2, fun i d hi => ⟨b, 0, _, rfl, ⟨rfl, hl d (List.mem_of_getElem? hi)⟩, fun j u hj => by
    have hg := flat_get hn hi hj
    rw [cell_of_row W b _ _ t fr h, Nat.zero_add, List.getElem?_toArray]
    exact hg⟩⟩
end
theorem sl_strs {W : World} {b : Nat} {t : TypeId} (l : List ByteArray) (hl : ∀ x ∈ l, Sm x) (hm : l.length ≤ maxLen) (h : W.heap[b]? = some (.cells (l.map Value.string).toArray t (0, 0))) : Sl strL W (.slice (some ⟨b, 0, none⟩) l.length l.length) l :=
  sl_block (t := t) (fr := (0, 0)) (enc := fun s => [.string s]) (fun _ => rfl) l hl _ (Nat.le_refl _) hm (by rw [h, show l.flatMap (fun s => [Value.string s]) = l.map Value.string from (List.map_eq_flatMap ..).symm])
theorem Fld.enc_len (d : Fld) : d.enc.length = 4 := rfl
theorem Prp.enc_len (d : Prp) : d.enc.length = 4 := rfl
theorem Tie.enc_len (d : Tie) : d.enc.length = 3 := rfl
theorem Bnd.enc_len (d : Bnd) : d.enc.length = 5 := rfl
theorem Own.flds {w : World} {B : Nat} {e : TypeId} {v : Value} {l : List Fld} (h : Own w B e 4 v l.length (l.flatMap Fld.enc)) (hl : ∀ x ∈ l, x.ok) : Sl fldL w v l := h.flat Fld.enc_len hl
theorem Own.prps {w : World} {B : Nat} {e : TypeId} {v : Value} {l : List Prp} (h : Own w B e 4 v l.length (l.flatMap Prp.enc)) (hl : ∀ x ∈ l, x.ok) : Sl prpL w v l := h.flat Prp.enc_len hl
theorem Own.ties {w : World} {B : Nat} {e : TypeId} {v : Value} {l : List Tie} (h : Own w B e 3 v l.length (l.flatMap Tie.enc)) (hl : ∀ x ∈ l, x.ok) : Sl tieL w v l := h.flat Tie.enc_len hl
theorem Own.bnds {w : World} {B : Nat} {e : TypeId} {v : Value} {l : List Bnd} (h : Own w B e 5 v l.length (l.flatMap Bnd.enc)) (hl : ∀ x ∈ l, x.ok) : Sl bndL w v l := h.flat Bnd.enc_len hl
theorem oneCell_flat {D : Type} {enc : D → List Value} (h1 : ∀ d, ∀ u ∈ enc d, u.oneCell' = true) (l : List D) : ∀ u ∈ l.flatMap enc, u.oneCell' = true := by
  intro u hu
  obtain ⟨d, _, hd⟩ := List.mem_flatMap.1 hu
  exact h1 d u hd
theorem Fld.enc_one (d : Fld) : ∀ u ∈ d.enc, u.oneCell' = true := by intro u hu; simp [Fld.enc] at hu; rcases hu with rfl | rfl | rfl | rfl <;> rfl
theorem Prp.enc_one (d : Prp) : ∀ u ∈ d.enc, u.oneCell' = true := by intro u hu; simp [Prp.enc] at hu; rcases hu with rfl | rfl | rfl | rfl <;> rfl
theorem Tie.enc_one (d : Tie) : ∀ u ∈ d.enc, u.oneCell' = true := by intro u hu; simp [Tie.enc] at hu; rcases hu with rfl | rfl | rfl <;> rfl
theorem Bnd.enc_one (d : Bnd) : ∀ u ∈ d.enc, u.oneCell' = true := by intro u hu; simp [Bnd.enc] at hu; rcases hu with rfl | rfl | rfl | rfl | rfl <;> rfl
end Go.Proofs.Ythefofclbepkoaa

/- A region that draws its order: all operations but the last few only read (in whatever world of a class), the last few stand in one order: one walk in the order of the text serves every order. Conditions: the two Bools on the region. -/
namespace Go.Proofs.Ythefofclbepkoaa
open Go Go.RowKit Go.Sort
section
variable {P : Program} {ops : Array Oper} {md : Region.Mode} {C : World → Prop}

def wpAnyLQ (P : Program) (md : Region.Mode) (ops : Array Oper) (C : World → Prop) (n : Nat) (L : Array Bool → Act → Prop) : Nat → Array Bool → Act → Prop
  | 0, listed, a => L listed a
  | f + 1, listed, a =>
    Region.ready md ops listed ≠ [] ∧ ∀ i ∈ Region.ready md ops listed, i < n ∧ qOp P ops C i (wpAnyLQ P md ops C n L f (listed.setIfInBounds i true)) a

theorem wpAny_of_headQ {n g : Nat} {L : Array Bool → Act → Prop} {Q' : Exit → Act → World → Prop} (hL : ∀ listed a w, C w → L listed a → wpAny P md ops Q' g listed a w) :
    ∀ (f : Nat) (listed : Array Bool) (a : Act) (w : World), C w → wpAnyLQ P md ops C n L f listed a → wpAny P md ops Q' (f + g) listed a w
  | 0, listed, a, w, hw, h => by rw [Nat.zero_add]; exact hL _ _ _ hw h
  | f + 1, listed, a, w, hw, h => by
    rw [show f + 1 + g = (f + g) + 1 by omega]
    exact ⟨fun h0 => absurd h0 h.1, fun i hi => wpOp_of_qOp hw (fun a' w' hw' h' => wpAny_of_headQ hL f _ a' w' hw' h') (h.2 i hi).2⟩

theorem wpAnyLQ_first {n i : Nat} {oi : Oper} {v : Value} {L : Array Bool → Act → Prop} (hi : ops[i]? = some oi) (hsel : ∀ (j : Nat) (o : Oper) cs b, ops[j]? = some o → o.op ≠ .select cs b)
    (hs : Region.sinkB md ops n = true) (hc : Region.chainB md ops n = true) (hn : n < ops.size) (hin : i < n)
    (hdone : ∀ listed a, L listed a → ∀ j ∈ Region.ready md ops listed, n ≤ j) :
    ∀ (f : Nat) (listed : Array Bool) (a : Act), HeadInv md ops n listed →
      (∀ j oj, ops[j]? = some oj → j ≠ i → listed.getD j true = false → (∀ e ∈ oj.after, Region.binds md e = true → e.on ≠ i) → oi.apart ops oj = true) →
      i ∈ Region.ready md ops listed → YieldsIn P ops C oi v a →
      wpAnyLQ P md ops C n L f (listed.setIfInBounds i true) (a.put oi.dst v) → wpAnyLQ P md ops C n L (f + 1) listed a := by
  intro f
  induction f with
  | zero =>
    intro listed a inv _ hr hy H
    have hun := (mem_ready.1 hr).1
    refine ⟨fun h => (by rw [h] at hr; cases hr), fun j hj => ?_⟩
    have hjn : j < n := by
      rcases Nat.lt_or_ge j n with h | h
      · exact h
      · exact absurd hj (tail_waits hs hc hn inv _ i rfl hin hun j h)
    refine ⟨hjn, ?_⟩
    by_cases hji : j = i
    · subst hji; exact hy.qOp hi H
    · have := hdone _ _ H j (ready_mono hj hji)
      omega
  | succ f ih =>
    intro listed a inv hfree hr hy H
    have hun := (mem_ready.1 hr).1
    refine ⟨fun h => (by rw [h] at hr; cases hr), fun j hj => ?_⟩
    have hjn : j < n := by
      rcases Nat.lt_or_ge j n with h | h
      · exact h
      · exact absurd hj (tail_waits hs hc hn inv _ i rfl hin hun j h)
    refine ⟨hjn, ?_⟩
    by_cases hji : j = i
    · subst hji; exact hy.qOp hi H
    · have h1 := (H.2 j (ready_mono hj hji)).2
      obtain ⟨hjun, oj, hoj, hall⟩ := mem_ready.1 hj
      have hnot : ∀ e ∈ oj.after, Region.binds md e = true → e.on ≠ i := fun e he hb heq => by
        have h1 := hall e he hb
        rw [heq, getD_both hun] at h1
        cases h1
      have h2 := qOp_put hoj (hfree j oj hoj hji hjun hnot) (fun cs b => hsel i oi cs b hi) (fun cs b => hsel j oj cs b hoj) hy h1
      have hfree' : ∀ k ok, ops[k]? = some ok → k ≠ i → (listed.setIfInBounds j true).getD k true = false →
          (∀ e ∈ ok.after, Region.binds md e = true → e.on ≠ i) → oi.apart ops ok = true := fun k ok hk hki hun hno => by
        refine hfree k ok hk hki ?_ hno
        by_cases hjk : j = k
        · subst hjk; exact hjun
        · rw [getD_set_ne true hjk] at hun; exact hun
      refine qOp_mono (fun a' h3 => ih (listed.setIfInBounds j true) a' (inv.set hj hjn) hfree' (ready_mono hr (Ne.symm hji)) h3.1 ?_) h2
      rw [Array.setIfInBounds_comm _ _ hji]
      exact h3.2

theorem wpAnyLQ_lex {n g : Nat} {Lq : Act → Prop} (hsel : Region.noSelect ops = true) (hs : Region.sinkB md ops n = true) (hc : Region.chainB md ops n = true) (hn : n < ops.size) :
    ∀ (l : List Oper) (k : Nat) (listed : Array Bool) (a : Act), (∀ j, j < l.length → l[j]? = ops[k + j]?) → k + l.length = n → HeadInv md ops n listed →
    Region.lexHead md ops g l.length k listed = true → wpQuiet P ops C Lq l a →
    wpAnyLQ P md ops C n (fun listed' a' => Region.seqB md ops g n listed' = true ∧ Lq a') l.length listed a
  | [], k, listed, a, _, hk, _, hB, h => by
    have : k = n := by simpa using hk
    subst this
    exact ⟨by simpa [Region.lexHead] using hB, h⟩
  | o :: l, k, listed, a, hl, hk, inv, hB, h => by
    have h0 : ops[k]? = some o := by simpa using (hl 0 (by simp)).symm
    simp only [List.length_cons, Region.lexHead, Bool.and_eq_true] at hB
    obtain ⟨⟨hr, hf⟩, hB'⟩ := hB
    have hkn : k < n := by simp only [List.length_cons] at hk; omega
    have hr' : k ∈ Region.ready md ops listed := by simpa using hr
    have hst : qOp P ops C k (wpQuiet P ops C Lq l) a := by unfold qOp; simp only [h0]; exact h
    obtain ⟨v, hy, hK⟩ := yieldsIn_of_qOp h0 hst
    exact wpAnyLQ_first h0 (Region.noSelect_spec hsel) hs hc hn hkn (fun listed' a' hL => seqB_ready hL.1) l.length listed a inv (Region.free_spec h0 hf) hr' hy
      (wpAnyLQ_lex hsel hs hc hn l (k + 1) _ _ (fun j hj => by have := hl (j + 1) (by simp; omega); simpa [Nat.add_assoc, Nat.add_comm 1 j] using this) (by simp only [List.length_cons] at hk; omega) (inv.set hr' hkn) hB' hK)

theorem wp_region_quiet_tail {id : Nat} {Q : Exit → Act → World → Prop} {a : Act} {w : World} {l : List Oper} (n : Nat) (hm : P.follows .mixedOrders = true) (hB : Region.lexTailB .any l.toArray n = true)
    (hC : C { w with drawn := w.drawn + 1 })
    (h : wpQuiet P l.toArray C (fun a' => ∀ w', C w' → wpList P l.toArray Q (l.drop n) a' w') (l.take n) a) : (Code.region id l.toArray true).wp P Q a w := by
  simp only [Region.lexTailB, Bool.and_eq_true, decide_eq_true_eq] at hB
  obtain ⟨⟨⟨⟨hsel, hn⟩, hs⟩, hc⟩, hlex⟩ := hB
  have hn' : n < l.length := by simpa using hn
  have htl : (l.take n).length = n := by simp; omega
  have hdl : (l.drop n).length = l.toArray.size - n := by simp
  have inv0 : HeadInv .any l.toArray n (Array.replicate l.toArray.size false) :=
    ⟨by simp, fun j oj _ hl => (by rw [getD_replicate_false] at hl; cases hl), fun t _ ht => getD_in (by simpa using ht) (getD_replicate_false _ _)⟩
  have H := wpAnyLQ_lex (C := C) (md := .any) (g := l.toArray.size - n) hsel hs hc hn (l.take n) 0 _ a (fun j hj => by
    have hj' : j < n := by rw [htl] at hj; exact hj
    simp [hj']) (by simpa using htl) inv0 (by rw [htl]; exact hlex) h
  refine wp_region_any hm ?_
  have := wpAny_of_headQ (C := C) (Q' := Q) (g := l.toArray.size - n) (fun listed a' w' hw' hL => by
    have := wpAny_of_seq (md := .any) (Q' := Q) (l.drop n) n listed a' w' (fun j => by simp [List.getElem?_drop]) (by rw [hdl]; exact hL.1) (hL.2 w' hw')
    rwa [hdl] at this) _ _ _ _ hC H
  rw [htl, show n + (l.toArray.size - n) = l.toArray.size by omega] at this
  exact this

/-- At the class 'w after some draws'. -/
theorem wp_quiet_tail {id : Nat} {Q : Exit → Act → World → Prop} {a : Act} {w : World} {l : List Oper} (n : Nat) (hm : P.follows .mixedOrders = true) (hB : Region.lexTailB .any l.toArray n = true)
    (h : wpQuiet P l.toArray (fun w' => ∃ n, w' = w.drewN n) (fun a' => ∀ w', (∃ n, w' = w.drewN n) → wpList P l.toArray Q (l.drop n) a' w') (l.take n) a) : (Code.region id l.toArray true).wp P Q a w :=
  wp_region_quiet_tail (C := fun w' => ∃ n, w' = w.drewN n) n hm hB ⟨1, rfl⟩ h
/-- At the class 'w grown'. -/
theorem wp_quiet_below_tail {id : Nat} {Q : Exit → Act → World → Prop} {a : Act} {w : World} {l : List Oper} (n : Nat) (hm : P.follows .mixedOrders = true) (hB : Region.lexTailB .any l.toArray n = true)
    (h : wpQuiet P l.toArray (fun w' => ∃ p : Regrown, w' = grow (redrawn w p.d) p.os) (fun a' => ∀ w', (∃ p : Regrown, w' = grow (redrawn w p.d) p.os) → wpList P l.toArray Q (l.drop n) a' w') (l.take n) a) : (Code.region id l.toArray true).wp P Q a w :=
  wp_region_quiet_tail (C := fun w' => ∃ p : Regrown, w' = grow (redrawn w p.d) p.os) n hm hB ⟨⟨w.drawn + 1, #[]⟩, by rw [grow_empty]; rfl⟩ h
end
end Go.Proofs.Ythefofclbepkoaa

/- A region that draws its order: first operations that only read, then one that may do anything, then again operations that only read: one walk in the order of the text serves every order. Conditions: the Bool on the region. -/
namespace Go.Proofs.Ythefofclbepkoaa
open Go Go.RowKit Go.Sort
section
variable {P : Program} {ops : Array Oper} {md : Region.Mode} {C : World → Prop}

/-- Each operation behind n waits for one from n on. -/
def tailB (md : Region.Mode) (ops : Array Oper) (n : Nat) : Bool :=
  (List.range ops.size).all fun t => decide (t ≤ n) || (List.range t).any fun j => decide (n ≤ j) && Region.waitsFor md ops t j

theorem tail_waits2 {n : Nat} {listed : Array Bool} (hs : Region.sinkB md ops n = true) (hc : tailB md ops n = true) (hn : n < ops.size) (inv : HeadInv md ops n listed) :
    ∀ (d i : Nat), n - i = d → i < n → listed.getD i true = false → ∀ t, n ≤ t → t ∉ Region.ready md ops listed := by
  intro d
  induction d using Nat.strongRecOn with
  | _ d ih =>
    intro i hd hi hun t ht hr
    obtain ⟨_, ot, hot, hall⟩ := mem_ready.1 hr
    have htlt : t < ops.size := (Array.getElem?_eq_some_iff.1 hot).1
    by_cases htn : t = n
    · subst htn
      have h1 := List.all_eq_true.1 hs i (List.mem_range.2 hi)
      obtain ⟨j, hj, hj2⟩ := List.any_eq_true.1 h1
      simp only [Bool.and_eq_true, decide_eq_true_eq] at hj2
      obtain ⟨oj, hoj, e, he, hb, hon⟩ := Region.waitsFor_spec hj2.2
      have hjle : j ≤ t := by have := List.mem_range.1 hj; omega
      by_cases hjt : j = t
      · subst hjt
        have : oj = ot := Option.some.inj (hoj.symm.trans hot)
        subst this
        have h2 := hall e he hb
        rw [hon, getD_both hun] at h2
        cases h2
      · cases hl : listed.getD j false with
        | true =>
          have h2 := inv.closed j oj hoj hl e he hb
          rw [hon, getD_both hun] at h2
          cases h2
        | false =>
          have hjs : j < listed.size := by rw [inv.size]; omega
          exact ih (t - j) (by omega) j rfl (by omega) (getD_in hjs hl) t (Nat.le_refl _) hr
    · have h1 := List.all_eq_true.1 hc t (List.mem_range.2 htlt)
      simp only [Bool.or_eq_true, decide_eq_true_eq] at h1
      rcases h1 with h1 | h1
      · omega
      · obtain ⟨j, hj, hj2⟩ := List.any_eq_true.1 h1
        simp only [Bool.and_eq_true, decide_eq_true_eq] at hj2
        have hjt := List.mem_range.1 hj
        obtain ⟨o', ho', e, he, hb, hon⟩ := Region.waitsFor_spec hj2.2
        have : o' = ot := Option.some.inj (ho'.symm.trans hot)
        subst this
        have h2 := hall e he hb
        rw [hon, getD_both (inv.tail j hj2.1 (by omega))] at h2
        cases h2

theorem wpAnyLQ_first2 {n i : Nat} {oi : Oper} {v : Value} {L : Array Bool → Act → Prop} (hi : ops[i]? = some oi) (hsel : ∀ (j : Nat) (o : Oper) cs b, ops[j]? = some o → o.op ≠ .select cs b)
    (hs : Region.sinkB md ops n = true) (hc : tailB md ops n = true) (hn : n < ops.size) (hin : i < n)
    (hdone : ∀ listed a, L listed a → ∀ j ∈ Region.ready md ops listed, n ≤ j) :
    ∀ (f : Nat) (listed : Array Bool) (a : Act), HeadInv md ops n listed →
      (∀ j oj, ops[j]? = some oj → j ≠ i → listed.getD j true = false → (∀ e ∈ oj.after, Region.binds md e = true → e.on ≠ i) → oi.apart ops oj = true) →
      i ∈ Region.ready md ops listed → YieldsIn P ops C oi v a →
      wpAnyLQ P md ops C n L f (listed.setIfInBounds i true) (a.put oi.dst v) → wpAnyLQ P md ops C n L (f + 1) listed a := by
  intro f
  induction f with
  | zero =>
    intro listed a inv _ hr hy H
    have hun := (mem_ready.1 hr).1
    refine ⟨fun h => (by rw [h] at hr; cases hr), fun j hj => ?_⟩
    have hjn : j < n := by
      rcases Nat.lt_or_ge j n with h | h
      · exact h
      · exact absurd hj (tail_waits2 hs hc hn inv _ i rfl hin hun j h)
    refine ⟨hjn, ?_⟩
    by_cases hji : j = i
    · subst hji; exact hy.qOp hi H
    · have := hdone _ _ H j (ready_mono hj hji)
      omega
  | succ f ih =>
    intro listed a inv hfree hr hy H
    have hun := (mem_ready.1 hr).1
    refine ⟨fun h => (by rw [h] at hr; cases hr), fun j hj => ?_⟩
    have hjn : j < n := by
      rcases Nat.lt_or_ge j n with h | h
      · exact h
      · exact absurd hj (tail_waits2 hs hc hn inv _ i rfl hin hun j h)
    refine ⟨hjn, ?_⟩
    by_cases hji : j = i
    · subst hji; exact hy.qOp hi H
    · have h1 := (H.2 j (ready_mono hj hji)).2
      obtain ⟨hjun, oj, hoj, hall⟩ := mem_ready.1 hj
      have hnot : ∀ e ∈ oj.after, Region.binds md e = true → e.on ≠ i := fun e he hb heq => by
        have h1 := hall e he hb
        rw [heq, getD_both hun] at h1
        cases h1
      have h2 := qOp_put hoj (hfree j oj hoj hji hjun hnot) (fun cs b => hsel i oi cs b hi) (fun cs b => hsel j oj cs b hoj) hy h1
      have hfree' : ∀ k ok, ops[k]? = some ok → k ≠ i → (listed.setIfInBounds j true).getD k true = false →
          (∀ e ∈ ok.after, Region.binds md e = true → e.on ≠ i) → oi.apart ops ok = true := fun k ok hk hki hun hno => by
        refine hfree k ok hk hki ?_ hno
        by_cases hjk : j = k
        · subst hjk; exact hjun
        · rw [getD_set_ne true hjk] at hun; exact hun
      refine qOp_mono (fun a' h3 => ih (listed.setIfInBounds j true) a' (inv.set hj hjn) hfree' (ready_mono hr (Ne.symm hji)) h3.1 ?_) h2
      rw [Array.setIfInBounds_comm _ _ hji]
      exact h3.2

/-- What is left of the order when the first n are listed: n alone, then the rest in the order of the text. -/
def midRest (md : Region.Mode) (ops : Array Oper) (g n : Nat) (listed : Array Bool) : Bool :=
  decide (Region.ready md ops listed = [n]) && Region.lexFrom md ops g (n + 1) (listed.setIfInBounds n true)
def midHead (md : Region.Mode) (ops : Array Oper) (g n : Nat) : Nat → Nat → Array Bool → Bool
  | 0, _, listed => midRest md ops g n listed
  | f + 1, k, listed => (Region.ready md ops listed).contains k && Region.free md ops listed k && midHead md ops g n f (k + 1) (listed.setIfInBounds k true)
def midB (md : Region.Mode) (ops : Array Oper) (n : Nat) : Bool :=
  Region.noSelect ops && decide (n < ops.size) && Region.sinkB md ops n && tailB md ops n && midHead md ops (ops.size - n - 1) n n 0 (Array.replicate ops.size false)

theorem wpAnyLQ_lex2 {n g : Nat} {Lq : Act → Prop} (hsel : Region.noSelect ops = true) (hs : Region.sinkB md ops n = true) (hc : tailB md ops n = true) (hn : n < ops.size) :
    ∀ (l : List Oper) (k : Nat) (listed : Array Bool) (a : Act), (∀ j, j < l.length → l[j]? = ops[k + j]?) → k + l.length = n → HeadInv md ops n listed →
    midHead md ops g n l.length k listed = true → wpQuiet P ops C Lq l a →
    wpAnyLQ P md ops C n (fun listed' a' => midRest md ops g n listed' = true ∧ Lq a') l.length listed a
  | [], k, listed, a, _, _, _, hB, h => ⟨by simpa [midHead] using hB, h⟩
  | o :: l, k, listed, a, hl, hk, inv, hB, h => by
    have h0 : ops[k]? = some o := by simpa using (hl 0 (by simp)).symm
    simp only [List.length_cons, midHead, Bool.and_eq_true] at hB
    obtain ⟨⟨hr, hf⟩, hB'⟩ := hB
    have hkn : k < n := by simp only [List.length_cons] at hk; omega
    have hr' : k ∈ Region.ready md ops listed := by simpa using hr
    have hst : qOp P ops C k (wpQuiet P ops C Lq l) a := by unfold qOp; simp only [h0]; exact h
    obtain ⟨v, hy, hK⟩ := yieldsIn_of_qOp h0 hst
    exact wpAnyLQ_first2 h0 (Region.noSelect_spec hsel) hs hc hn hkn (fun listed' a' hL => by
        have h2 := hL.1
        simp only [midRest, Bool.and_eq_true, decide_eq_true_eq] at h2
        intro j hj
        rw [h2.1] at hj
        have : j = n := by simpa using hj
        omega) l.length listed a inv (Region.free_spec h0 hf) hr' hy
      (wpAnyLQ_lex2 hsel hs hc hn l (k + 1) _ _ (fun j hj => by have := hl (j + 1) (by simp; omega); simpa [Nat.add_assoc, Nat.add_comm 1 j] using this) (by simp only [List.length_cons] at hk; omega) (inv.set hr' hkn) hB' hK)

theorem wp_region_mid {id : Nat} {Q : Exit → Act → World → Prop} {a : Act} {w : World} {l : List Oper} (n : Nat) (om : Oper) (hom : l[n]? = some om) (hgd : om.guard = none) (hm : P.follows .mixedOrders = true) (hB : midB .any l.toArray n = true)
    (hC : C { w with drawn := w.drawn + 1 })
    (h : wpQuiet P l.toArray C (fun a' => ∀ w', C w' → om.wp P a' w' (fun a2 w2 => wpQuiet P l.toArray (fun x => ∃ n, x = w2.drewN n) (fun a3 => ∀ w3, (∃ n, w3 = w2.drewN n) → Q .normal a3 w3) (l.drop (n + 1)) a2) Q) (l.take n) a) : (Code.region id l.toArray true).wp P Q a w := by
  simp only [midB, Bool.and_eq_true, decide_eq_true_eq] at hB
  obtain ⟨⟨⟨⟨hsel, hn⟩, hs⟩, hc⟩, hlex⟩ := hB
  have hn' : n < l.length := by simpa using hn
  have htl : (l.take n).length = n := by simp; omega
  have hdl : (l.drop (n + 1)).length = l.toArray.size - n - 1 := by simp; omega
  have inv0 : HeadInv .any l.toArray n (Array.replicate l.toArray.size false) :=
    ⟨by simp, fun j oj _ hl => (by rw [getD_replicate_false] at hl; cases hl), fun t _ ht => getD_in (by simpa using ht) (getD_replicate_false _ _)⟩
  have H := wpAnyLQ_lex2 (C := C) (md := .any) (g := l.toArray.size - n - 1) hsel hs hc hn (l.take n) 0 _ a (fun j hj => by
    have hj' : j < n := by rw [htl] at hj; exact hj
    simp [hj']) (by simpa using htl) inv0 (by rw [htl]; exact hlex) h
  refine wp_region_any hm ?_
  have key := wpAny_of_headQ (C := C) (Q' := Q) (g := l.toArray.size - n - 1 + 1) (fun listed a' w' hw' hL => by
    have h1 := hL.1
    simp only [midRest, Bool.and_eq_true, decide_eq_true_eq] at h1
    refine ⟨fun h0 => (by rw [h1.1] at h0; cases h0), fun i hi => ?_⟩
    rw [h1.1] at hi
    obtain rfl : i = n := by simpa using hi
    have h0 : l.toArray[i]? = some om := by simpa using hom
    unfold wpOp
    simp only [h0]
    have hw : Region.wanted om (yielded l.toArray a'.tmps) = true := by simp [Region.wanted, hgd]
    simp only [hw, if_true]
    refine .inl ?_
    have h2 := hL.2 w' hw'
    unfold Oper.wp at h2 ⊢
    generalize (execOp a'.eval om).run P w' = r at h2 ⊢
    have step : ∀ a2 w2, wpQuiet P l.toArray (fun x => ∃ n, x = w2.drewN n) (fun a3 => ∀ w3, (∃ n, w3 = w2.drewN n) → Q .normal a3 w3) (l.drop (i + 1)) a2 →
        wpAny P .any l.toArray Q (l.toArray.size - i - 1) (listed.setIfInBounds i true) a2 w2 := fun a2 w2 hq => by
      have h3 := wpAnyQ_lex (C := fun x => ∃ n, x = w2.drewN n) (md := .any) hsel (l.drop (i + 1)) (i + 1) (listed.setIfInBounds i true) a2 (fun j => by simp [List.getElem?_drop]) (by rw [hdl]; exact h1.2) hq
      rw [hdl] at h3
      exact wpAny_of_quiet (Q := fun a3 => ∀ w3, (∃ n, w3 = w2.drewN n) → Q .normal a3 w3) (fun _ w3 hw3 h => h w3 hw3) _ _ _ _ ⟨0, rfl⟩ h3
    cases r with
    | ok nx w2 =>
      cases nx <;> simp only [Oper.upon] at h2 ⊢
      case value v => exact step _ _ h2
      case skip => exact step _ _ h2
      case defer d => exact step _ _ h2
      case enter f args =>
        refine h2.mono fun e w3 h3 => ?_
        cases e with
        | returned v => exact step _ _ h3
        | panicked c => exact h3
        | outgrown => exact h3
      case row r args => exact h2.mono fun v w3 h3 => step _ _ h3
      all_goals first | exact h2.elim | exact h2
    | halt hh w2 =>
      cases hh <;> simp only [Oper.upon] at h2 ⊢
      all_goals first | exact h2 | exact h2.elim) _ _ _ _ hC H
  rw [htl, show n + (l.toArray.size - n - 1 + 1) = l.toArray.size by simp only [List.size_toArray]; omega] at key
  exact key

theorem wp_mid_drew {id : Nat} {Q : Exit → Act → World → Prop} {a : Act} {w : World} {l : List Oper} (n : Nat) (om : Oper) (hom : l[n]? = some om) (hgd : om.guard = none) (hm : P.follows .mixedOrders = true) (hB : midB .any l.toArray n = true)
    (h : wpQuiet P l.toArray (fun w' => ∃ n, w' = w.drewN n) (fun a' => ∀ w', (∃ n, w' = w.drewN n) → om.wp P a' w' (fun a2 w2 => wpQuiet P l.toArray (fun x => ∃ n, x = w2.drewN n) (fun a3 => ∀ w3, (∃ n, w3 = w2.drewN n) → Q .normal a3 w3) (l.drop (n + 1)) a2) Q) (l.take n) a) : (Code.region id l.toArray true).wp P Q a w :=
  wp_region_mid (C := fun w' => ∃ n, w' = w.drewN n) n om hom hgd hm hB ⟨1, rfl⟩ h
theorem quiet_mono {o : Oper} {K K' : Act → Prop} {a : Act} (h : ∀ a, K a → K' a) (hq : o.quiet P a C K) : o.quiet P a C K' := by
  unfold Oper.quiet at hq ⊢
  obtain ⟨v, h1, h2⟩ := hq
  exact ⟨v, h1, h _ h2⟩
theorem wpQuiet_mono {K K' : Act → Prop} (h : ∀ a, K a → K' a) : ∀ (l : List Oper) (a : Act), wpQuiet P ops C K l a → wpQuiet P ops C K' l a
  | [], a, hq => h a hq
  | o :: l, a, hq => by
    unfold wpQuiet at hq ⊢
    split
    · rename_i hw
      rw [if_pos hw] at hq
      exact quiet_mono (fun a => wpQuiet_mono h l a) hq
    · rename_i hw
      rw [if_neg hw] at hq
      exact wpQuiet_mono h l _ hq
theorem wp_mid_k {id : Nat} {Q : Exit → Act → World → Prop} {a : Act} {w : World} {l : List Oper} (n : Nat) (om : Oper) (hom : l[n]? = some om) (hgd : om.guard = none) (hm : P.follows .mixedOrders = true) (hB : midB .any l.toArray n = true)
    (h : wpQuiet P l.toArray (fun w' => ∃ n, w' = w.drewN n) (fun a' => ∀ w', (∃ n, w' = w.drewN n) → ∀ K : Act → World → Prop, (∀ a2 w2, wpQuiet P l.toArray (fun x => ∃ n, x = w2.drewN n) (fun a3 => ∀ w3, (∃ n, w3 = w2.drewN n) → Q .normal a3 w3) (l.drop (n + 1)) a2 → K a2 w2) → om.wp P a' w' K Q) (l.take n) a) : (Code.region id l.toArray true).wp P Q a w :=
  wp_mid_drew n om hom hgd hm hB (wpQuiet_mono (fun _ h w' hw' => h w' hw' _ fun _ _ h => h) _ _ h)
end
end Go.Proofs.Ythefofclbepkoaa
