/- Parts: Qg, RfG, RfH. -/
import Derived.Test.YtflidfmpmakggaaGreatDoorMg04
import Derived.Test.YtflidfmpmakggaaGreatDoorMg10
/- As Qm: the operation in the middle may be guarded; its guard lets it be done. Conditions: the Bool on the region. -/
namespace Go.Proofs.YtflidfmpmakggaaGreatDoor
open Go Go.RowKit Go.Sort
section
variable {P : Program} {ops : Array Oper} {md : Region.Mode} {C : World → Prop}
theorem wp_region_midg {id : Nat} {Q : Exit → Act → World → Prop} {a : Act} {w : World} {l : List Oper} (n : Nat) (om : Oper) (hom : l[n]? = some om) (hm : P.follows .mixedOrders = true) (hB : midB .any l.toArray n = true)
    (hC : C { w with drawn := w.drawn + 1 })
    (h : wpQuiet P l.toArray C (fun a' => Region.wanted om (yielded l.toArray a'.tmps) = true ∧ ∀ w', C w' → om.wp P a' w' (fun a2 w2 => wpQuiet P l.toArray (fun x => ∃ n, x = w2.drewN n) (fun a3 => ∀ w3, (∃ n, w3 = w2.drewN n) → Q .normal a3 w3) (l.drop (n + 1)) a2) Q) (l.take n) a) : (Code.region id l.toArray true).wp P Q a w := by
  simp only [midB, Bool.and_eq_true, decide_eq_true_eq] at hB
  obtain ⟨⟨⟨⟨hsel, hn⟩, hs⟩, hc⟩, hlex⟩ := hB
  have hn' : n < l.length := by simpa using hn
  have htl : (l.take n).length = n := by simp; omega
  have hdl : (l.drop (n + 1)).length = l.toArray.size - n - 1 := by simp; omega
  have inv0 : HeadInv .any l.toArray n (Array.replicate l.toArray.size false) :=
    ⟨by simp, fun j oj _ hl => (by rw [getD_replicate_false] at hl; cases hl), fun t _ ht => getD_in (by simpa using ht) (getD_replicate_false _ _)⟩
  have H := wpAnyLQ_lex2 (C := C) (md := .any) (g := l.toArray.size - n - 1) hsel hs hc hn (l.take n) 0 _ a (fun j hj => by
    have hj' : j < n := by rw [htl] at hj; exact hj
    simp [hj']) (by simpa using htl) inv0 (by rw [htl]; exact hlex) h
  refine wp_region_any hm ?_
  have key := wpAny_of_headQ (C := C) (Q' := Q) (g := l.toArray.size - n - 1 + 1) (fun listed a' w' hw' hL => by
    have h1 := hL.1
    simp only [midRest, Bool.and_eq_true, decide_eq_true_eq] at h1
    refine ⟨fun h0 => (by rw [h1.1] at h0; cases h0), fun i hi => ?_⟩
    rw [h1.1] at hi
    obtain rfl : i = n := by simpa using hi
    have h0 : l.toArray[i]? = some om := by simpa using hom
    unfold wpOp
    simp only [h0]
    have hw := hL.2.1
    simp only [hw, if_true]
    refine .inl ?_
    have h2 := hL.2.2 w' hw'
    unfold Oper.wp at h2 ⊢
    generalize (execOp a'.eval om).run P w' = r at h2 ⊢
    have step : ∀ a2 w2, wpQuiet P l.toArray (fun x => ∃ n, x = w2.drewN n) (fun a3 => ∀ w3, (∃ n, w3 = w2.drewN n) → Q .normal a3 w3) (l.drop (i + 1)) a2 →
        wpAny P .any l.toArray Q (l.toArray.size - i - 1) (listed.setIfInBounds i true) a2 w2 := fun a2 w2 hq => by
      have h3 := wpAnyQ_lex (C := fun x => ∃ n, x = w2.drewN n) (md := .any) hsel (l.drop (i + 1)) (i + 1) (listed.setIfInBounds i true) a2 (fun j => by simp [List.getElem?_drop]) (by rw [hdl]; exact h1.2) hq
      rw [hdl] at h3
      exact wpAny_of_quiet (Q := fun a3 => ∀ w3, (∃ n, w3 = w2.drewN n) → Q .normal a3 w3) (fun _ w3 hw3 h => h w3 hw3) _ _ _ _ ⟨0, rfl⟩ h3
    cases r with
    | ok nx w2 =>
      cases nx <;> simp only [Oper.upon] at h2 ⊢
      case value v => exact step _ _ h2
      case skip => exact step _ _ h2
      case defer d => exact step _ _ h2
      case enter f args =>
        refine h2.mono fun e w3 h3 => ?_
        cases e with
        | returned v => exact step _ _ h3
        | panicked c => exact h3
        | outgrown => exact h3
      case row r args => exact h2.mono fun v w3 h3 => step _ _ h3
      all_goals first | exact h2.elim | exact h2
    | halt hh w2 =>
      cases hh <;> simp only [Oper.upon] at h2 ⊢
      all_goals first | exact h2 | exact h2.elim) _ _ _ _ hC H
  rw [htl, show n + (l.toArray.size - n - 1 + 1) = l.toArray.size by simp only [List.size_toArray]; omega] at key
  exact key

theorem wp_mid_g {id : Nat} {Q : Exit → Act → World → Prop} {a : Act} {w : World} {l : List Oper} (n : Nat) (om : Oper) (hom : l[n]? = some om) (hm : P.follows .mixedOrders = true) (hB : midB .any l.toArray n = true)
    (h : wpQuiet P l.toArray (fun w' => ∃ n, w' = w.drewN n) (fun a' => Region.wanted om (yielded l.toArray a'.tmps) = true ∧ ∀ w', (∃ n, w' = w.drewN n) → ∀ K : Act → World → Prop, (∀ a2 w2, wpQuiet P l.toArray (fun x => ∃ n, x = w2.drewN n) (fun a3 => ∀ w3, (∃ n, w3 = w2.drewN n) → Q .normal a3 w3) (l.drop (n + 1)) a2 → K a2 w2) → om.wp P a' w' K Q) (l.take n) a) : (Code.region id l.toArray true).wp P Q a w :=
  wp_region_midg (C := fun w' => ∃ n, w' = w.drewN n) n om hom hm hB ⟨1, rfl⟩ (wpQuiet_mono (fun _ h => ⟨h.1, fun w' hw' => h.2 w' hw' _ fun _ _ h => h⟩) _ _ h)
end
open Go Go.RowKit


theorem rid_any (n : Int) (w : World) : Calls Tryz.prog 40 #[.int .i64 n] w fun e w' => e = .returned (.bool (idB n)) ∧ w = w' := by
  have HE : Hid (idB n = (decide (1 ≤ n) && decide (n ≤ 1000))) := rfl
  by_cases h1 : 1 ≤ n
  · have HB : Hid (idB n = decide (n ≤ 1000)) := by unfold Hid; rw [HE.out, decide_eq_true h1]; rfl
    clear HE
    go_enter Tryz.func40, Tryz.ntmps40
    go_wp2_with fail
    go_ret
    exact ⟨by rw [HB.out]; rfl, rfl⟩
  · have HB : Hid (idB n = false) := by unfold Hid; rw [HE.out, decide_eq_false h1]; rfl
    have h1' : n < 1 := by omega
    clear HE h1
    go_enter Tryz.func40, Tryz.ntmps40
    go_wp2_with fail
    go_ret
    exact ⟨by rw [HB.out]; rfl, rfl⟩
set_option maxHeartbeats 1000000 in
theorem rnode_any (n : Nod) (v : Value) (w : World) (hi : Sm n.kind) (hv : Sl prpL w v n.props) :
    Calls Tryz.prog 41 #[.agg #[.int .i64 n.id, .string n.kind, v]] w fun e w' => e = .returned (.int .i64 (nodE n)) ∧ Below w.heap.size w w' := by
  obtain ⟨A, c, rfl, _, _⟩ := hv.form
  have HF : Hid (nodE n = if idB n.id = false then 1 else if nameE n.kind = 0 then recE n.props else nameE n.kind) := rfl
  obtain ⟨id, kind, props⟩ := n
  have hi' : Sm kind := hi
  have hv : Sl prpL w (.slice A props.length c) props := hv
  have hb0 : Below w.heap.size w (w.alloc (.cells #[.int .i64 id, .string kind, .slice A props.length c] 98)) := (Below.refl _ _).alloc (Nat.le_refl _) _
  have h1 := rid_any id (w.alloc (.cells #[.int .i64 id, .string kind, .slice A props.length c] 98))
  have h2 := rname_any kind (w.alloc (.cells #[.int .i64 id, .string kind, .slice A props.length c] 98)) hi'
  have h3 := rrecord_any props _ _ (hv.below hb0)
  cases hq : idB id with
  | false =>
    have HE : Hid (nodE ⟨id, kind, props⟩ = 1) := by unfold Hid; rw [HF.out]; simp only [hq, if_true]
    rw [hq] at h1
    clear hv h2 h3 hq HF
    go_enter Tryz.func41, Tryz.ntmps41
    go_wp2_with fail
    refine h1.mono ?_
    clear h1
    rintro e w1 ⟨rfl, rfl⟩
    go_wp2_with fail
    go_ret
    exact ⟨by rw [HE.out]; rfl, hb0⟩
  | true =>
    rw [hq] at h1
    by_cases hn : nameE kind = 0
    · have HE : Hid (nodE ⟨id, kind, props⟩ = recE props) := by unfold Hid; rw [HF.out]; simp only [hq, hn, if_true, Bool.true_eq_false, if_false]
      rw [hn] at h2
      clear hv hq HF hn
      generalize recE props = z at *
      go_enter Tryz.func41, Tryz.ntmps41
      go_wp2_with fail
      refine h1.mono ?_
      clear h1
      rintro e w1 ⟨rfl, rfl⟩
      go_wp2_with fail
      refine h2.mono ?_
      clear h2
      rintro e w1 ⟨rfl, rfl⟩
      go_wp2_with fail
      refine h3.mono ?_
      clear h3
      rintro e w2 ⟨rfl, hb2⟩
      go_wp2_with fail
      go_ret
      exact ⟨by rw [HE.out]; rfl, hb0.trans (hb2.mono hb0.size)⟩
    · have HE : Hid (nodE ⟨id, kind, props⟩ = 2) := by unfold Hid; rw [HF.out]; simp only [hq, hn, Bool.true_eq_false, if_false]; exact nameE_two hn
      rw [nameE_two hn] at h2
      clear hv hq HF hn h3
      go_enter Tryz.func41, Tryz.ntmps41
      go_wp2_with fail
      refine h1.mono ?_
      clear h1
      rintro e w1 ⟨rfl, rfl⟩
      go_wp2_with fail
      refine h2.mono ?_
      clear h2
      rintro e w1 ⟨rfl, rfl⟩
      go_wp2_with fail
      go_ret
      exact ⟨by rw [HE.out]; rfl, hb0⟩
set_option maxHeartbeats 1000000 in
theorem rtie_any (t : Tie) (w : World) (hs : Sm t.bond) :
    Calls Tryz.prog 42 #[.agg #[.string t.bond, .int .i64 t.src, .int .i64 t.dst]] w fun e w' => e = .returned (.int .i64 (tieE t)) ∧ Below w.heap.size w w' := by
  have HF : Hid (tieE t = if nameE t.bond = 0 then (if (idB t.src && idB t.dst) then 0 else 1) else nameE t.bond) := rfl
  obtain ⟨bond, src, dst⟩ := t
  have hs : Sm bond := hs
  have hb0 : Below w.heap.size w (w.alloc (.cells #[.string bond, .int .i64 src, .int .i64 dst] 102)) := (Below.refl _ _).alloc (Nat.le_refl _) _
  have h1 := rname_any bond (w.alloc (.cells #[.string bond, .int .i64 src, .int .i64 dst] 102)) hs
  have h2 := rid_any src (w.alloc (.cells #[.string bond, .int .i64 src, .int .i64 dst] 102))
  have h3 := rid_any dst (w.alloc (.cells #[.string bond, .int .i64 src, .int .i64 dst] 102))
  by_cases hn : nameE bond = 0
  · rw [hn] at h1
    have HG : Hid (tieE ⟨bond, src, dst⟩ = if (idB src && idB dst) then 0 else 1) := by unfold Hid; rw [HF.out]; simp only [hn, if_true]
    clear hn HF
    generalize idB src = p at *
    generalize idB dst = q at *
    cases p with
    | false =>
      have HE : Hid (tieE ⟨bond, src, dst⟩ = 1) := HG.out
      cases q with
      | false =>
        go_enter Tryz.func42, Tryz.ntmps42
        go_wp2_with fail
        refine h1.mono ?_
        clear h1
        rintro e w1 ⟨rfl, rfl⟩
        go_wp2_with fail
        refine h2.mono ?_
        clear h2
        rintro e w1 ⟨rfl, rfl⟩
        go_wp2_with fail
        refine h3.mono ?_
        clear h3
        rintro e w1 ⟨rfl, rfl⟩
        go_wp2_with fail
        go_ret
        exact ⟨by rw [HE.out]; rfl, hb0⟩
      | true =>
        go_enter Tryz.func42, Tryz.ntmps42
        go_wp2_with fail
        refine h1.mono ?_
        clear h1
        rintro e w1 ⟨rfl, rfl⟩
        go_wp2_with fail
        refine h2.mono ?_
        clear h2
        rintro e w1 ⟨rfl, rfl⟩
        go_wp2_with fail
        refine h3.mono ?_
        clear h3
        rintro e w1 ⟨rfl, rfl⟩
        go_wp2_with fail
        go_ret
        exact ⟨by rw [HE.out]; rfl, hb0⟩
    | true =>
      cases q with
      | false =>
        have HE : Hid (tieE ⟨bond, src, dst⟩ = 1) := HG.out
        go_enter Tryz.func42, Tryz.ntmps42
        go_wp2_with fail
        refine h1.mono ?_
        clear h1
        rintro e w1 ⟨rfl, rfl⟩
        go_wp2_with fail
        refine h2.mono ?_
        clear h2
        rintro e w1 ⟨rfl, rfl⟩
        go_wp2_with fail
        refine h3.mono ?_
        clear h3
        rintro e w1 ⟨rfl, rfl⟩
        go_wp2_with fail
        go_ret
        exact ⟨by rw [HE.out]; rfl, hb0⟩
      | true =>
        have HE : Hid (tieE ⟨bond, src, dst⟩ = 0) := HG.out
        go_enter Tryz.func42, Tryz.ntmps42
        go_wp2_with fail
        refine h1.mono ?_
        clear h1
        rintro e w1 ⟨rfl, rfl⟩
        go_wp2_with fail
        refine h2.mono ?_
        clear h2
        rintro e w1 ⟨rfl, rfl⟩
        go_wp2_with fail
        refine h3.mono ?_
        clear h3
        rintro e w1 ⟨rfl, rfl⟩
        go_wp2_with fail
        go_ret
        exact ⟨by rw [HE.out]; rfl, hb0⟩
  · rw [nameE_two hn] at h1
    have HE : Hid (tieE ⟨bond, src, dst⟩ = 2) := by unfold Hid; rw [HF.out]; simp only [hn, if_false]; exact nameE_two hn
    clear hn HF
    generalize idB src = p at *
    generalize idB dst = q at *
    cases p with
    | false =>
      cases q with
      | false =>
        go_enter Tryz.func42, Tryz.ntmps42
        go_wp2_with fail
        refine h1.mono ?_
        clear h1
        rintro e w1 ⟨rfl, rfl⟩
        go_wp2_with fail
        refine h2.mono ?_
        clear h2
        rintro e w1 ⟨rfl, rfl⟩
        go_wp2_with fail
        refine h3.mono ?_
        clear h3
        rintro e w1 ⟨rfl, rfl⟩
        go_wp2_with fail
        go_ret
        exact ⟨by rw [HE.out]; rfl, hb0⟩
      | true =>
        go_enter Tryz.func42, Tryz.ntmps42
        go_wp2_with fail
        refine h1.mono ?_
        clear h1
        rintro e w1 ⟨rfl, rfl⟩
        go_wp2_with fail
        refine h2.mono ?_
        clear h2
        rintro e w1 ⟨rfl, rfl⟩
        go_wp2_with fail
        refine h3.mono ?_
        clear h3
        rintro e w1 ⟨rfl, rfl⟩
        go_wp2_with fail
        go_ret
        exact ⟨by rw [HE.out]; rfl, hb0⟩
    | true =>
      cases q with
      | false =>
        go_enter Tryz.func42, Tryz.ntmps42
        go_wp2_with fail
        refine h1.mono ?_
        clear h1
        rintro e w1 ⟨rfl, rfl⟩
        go_wp2_with fail
        refine h2.mono ?_
        clear h2
        rintro e w1 ⟨rfl, rfl⟩
        go_wp2_with fail
        refine h3.mono ?_
        clear h3
        rintro e w1 ⟨rfl, rfl⟩
        go_wp2_with fail
        go_ret
        exact ⟨by rw [HE.out]; rfl, hb0⟩
      | true =>
        go_enter Tryz.func42, Tryz.ntmps42
        go_wp2_with fail
        refine h1.mono ?_
        clear h1
        rintro e w1 ⟨rfl, rfl⟩
        go_wp2_with fail
        refine h2.mono ?_
        clear h2
        rintro e w1 ⟨rfl, rfl⟩
        go_wp2_with fail
        refine h3.mono ?_
        clear h3
        rintro e w1 ⟨rfl, rfl⟩
        go_wp2_with fail
        go_ret
        exact ⟨by rw [HE.out]; rfl, hb0⟩
theorem less_bond {a b : Tie} (h : a.bond ≠ b.bond) : decide (tieO a b < 0) = Op.bytesLess a.bond.toList b.bond.toList := by
  have h1 : cmpS a.bond b.bond ≠ 0 := fun e => h (cmpS_zero.1 e)
  have h2 : Op.bytesLess a.bond.toList b.bond.toList = decide (cmpS a.bond b.bond < 0) := ltS_cmp a.bond b.bond
  rw [h2]
  unfold tieO orI
  rw [if_neg h1]
theorem less_src {a b : Tie} (h : a.bond = b.bond) (h2 : a.src ≠ b.src) : decide (tieO a b < 0) = decide (a.src < b.src) := by
  have h1 : cmpS a.bond b.bond = 0 := cmpS_zero.2 h
  unfold tieO orI
  rw [if_pos h1]
  unfold orI cmpI
  by_cases h3 : a.src < b.src
  · simp [h3]
  · have h4 : b.src < a.src := by omega
    simp [h3, h4]
theorem less_dst {a b : Tie} (h : a.bond = b.bond) (h2 : a.src = b.src) : decide (tieO a b < 0) = decide (a.dst < b.dst) := by
  have h1 : cmpS a.bond b.bond = 0 := cmpS_zero.2 h
  unfold tieO orI
  rw [if_pos h1]
  unfold orI cmpI
  rw [h2]
  by_cases h3 : a.dst < b.dst
  · simp [h3, orI]
  · by_cases h4 : b.dst < a.dst <;> simp [h3, h4, orI]
set_option maxHeartbeats 1000000 in
theorem rless_any (a b : Tie) (w : World) :
    Calls Tryz.prog 43 #[.agg #[.string a.bond, .int .i64 a.src, .int .i64 a.dst], .agg #[.string b.bond, .int .i64 b.src, .int .i64 b.dst]] w fun e w' => e = .returned (.bool (decide (tieO a b < 0))) ∧ Below w.heap.size w w' := by
  have hb0 : Below w.heap.size w ((w.alloc (.cells #[.string a.bond, .int .i64 a.src, .int .i64 a.dst] 102)).alloc (.cells #[.string b.bond, .int .i64 b.src, .int .i64 b.dst] 102)) := ((Below.refl _ _).alloc (Nat.le_refl _) _).alloc (by simp) _
  have hbb : (a.bond.toList == b.bond.toList) = decide (a.bond = b.bond) := bytes_beq a.bond b.bond
  by_cases h1 : a.bond = b.bond
  · rw [decide_eq_true h1] at hbb
    have hbc : a.bond.toList = b.bond.toList := by rw [h1]
    by_cases h2 : a.src = b.src
    · have HE : Hid (decide (tieO a b < 0) = decide (a.dst < b.dst)) := less_dst h1 h2
      have h2b : (a.src != b.src) = false := by simpa using h2
      clear h1 h2
      go_enter Tryz.func43, Tryz.ntmps43
      go_wp2_with fail
      go_ret
      exact ⟨by rw [HE.out]; rfl, hb0⟩
    · have HE : Hid (decide (tieO a b < 0) = decide (a.src < b.src)) := less_src h1 h2
      have h2b : (a.src != b.src) = true := by simpa using h2
      clear h1 h2
      go_enter Tryz.func43, Tryz.ntmps43
      go_wp2_with fail
      go_ret
      exact ⟨by rw [HE.out]; rfl, hb0⟩
  · have HE : Hid (decide (tieO a b < 0) = Op.bytesLess a.bond.toList b.bond.toList) := less_bond h1
    rw [decide_eq_false h1] at hbb
    have hbc : ¬ a.bond.toList = b.bond.toList := by rw [bytes_eq]; exact h1
    clear h1
    go_enter Tryz.func43, Tryz.ntmps43
    go_wp2_with fail
    go_ret
    exact ⟨by rw [HE.out]; rfl, hb0⟩


set_option maxRecDepth 100000 in
set_option maxHeartbeats 8000000 in
theorem rgraph_any (g : Grf) (vn vt : Value) (w : World) (hg : GrfR w vn vt g) :
    Calls Tryz.prog 7 #[.agg #[vn, vt]] w fun e w' => e = .returned (.int .i64 (grfE g)) ∧ Below w.heap.size w w' := by
  obtain ⟨hn, ht⟩ := hg
  obtain ⟨A, c, rfl, hlc, hcm⟩ := hn.form
  obtain ⟨A', c', rfl, hlc', hcm'⟩ := ht.form
  unfold maxLen at hcm hcm'
  have HF : Hid (grfE g = if 60 < g.nodes.length ∨ 120 < g.ties.length then 4 else if nodsE none g.nodes = 0 then tiesE none g.ties else nodsE none g.nodes) := rfl
  obtain ⟨q0, q1⟩ := cell_box2 w (.slice A g.nodes.length c) (.slice A' g.ties.length c') 25
  have hb0 : Below w.heap.size w (w.alloc (.cells #[.slice A g.nodes.length c, .slice A' g.ties.length c'] 25)) := (Below.refl _ _).alloc (Nat.le_refl _) _
  by_cases h1 : 60 < g.nodes.length
  · have HE : Hid (grfE g = 4) := by unfold Hid; rw [HF.out, if_pos (Or.inl h1)]
    have h1' : (60 : Int) < (g.nodes.length : Int) := by omega
    clear hn ht
    go_enter Tryz.func7, Tryz.ntmps7
    go_wp2_with fail
    go_ret
    exact ⟨by rw [HE.out]; rfl, hb0⟩
  have h1' : decide ((60 : Int) < (g.nodes.length : Int)) = false := by simp; omega
  have h1'' : (g.nodes.length : Int) ≤ 60 := by omega
  by_cases h2 : 120 < g.ties.length
  · have HE : Hid (grfE g = 4) := by unfold Hid; rw [HF.out, if_pos (Or.inr h2)]
    have h2' : (120 : Int) < (g.ties.length : Int) := by omega
    clear hn ht
    go_enter Tryz.func7, Tryz.ntmps7
    go_wp2_with fail
    go_ret
    exact ⟨by rw [HE.out]; rfl, hb0⟩
  have h2' : decide ((120 : Int) < (g.ties.length : Int)) = false := by simp; omega
  have h2'' : (g.ties.length : Int) ≤ 120 := by omega
  have HG : Hid (grfE g = if nodsE none g.nodes = 0 then tiesE none g.ties else nodsE none g.nodes) := by unfold Hid; rw [HF.out, if_neg (by omega)]
  have HN0 := Lib.hid (hn.below hb0)
  have HT0 := Lib.hid (ht.below hb0)
  clear HF hn ht h1 h2
  have hw0 : w.heap.size < (w.alloc (.cells #[.slice A g.nodes.length c, .slice A' g.ties.length c'] 25)).heap.size := by simp
  go_enter Tryz.func7, Tryz.ntmps7
  go_wp2_with fail
  generalize hW : w.alloc (.cells #[.slice A g.nodes.length c, .slice A' g.ties.length c'] 25) = W at *
  clear hW
  go_loopw [3] (fun i wr => ∃ k : Nat, k ≤ g.nodes.length ∧ i = .int .i64 k ∧ Below W.heap.size W wr ∧ Hid (nodsE none g.nodes = nodsE (prev g.nodes k) (g.nodes.drop k))) (fun i _ => g.nodes.length - (intOf i).toNat)
  case atStart => exact ⟨0, Nat.zero_le _, rfl, Below.refl _ _, rfl⟩
  case round =>
    obtain ⟨k, hk, rfl, hb, HA⟩ := hrel
    have r0 : wr.cell? ⟨w.heap.size, 0, none⟩ = some (.slice A g.nodes.length c) := cell_below hb q0
    have r1 : wr.cell? ⟨w.heap.size, 1, none⟩ = some (.slice A' g.ties.length c') := cell_below hb q1
    by_cases hlt : k < g.nodes.length
    · obtain ⟨d, hd⟩ : ∃ d, g.nodes[k]? = some d := ⟨_, List.getElem?_eq_getElem hlt⟩
      obtain ⟨b, o, rfl, hall⟩ := nod_all (HN0.out.below hb) (by omega)
      obtain ⟨u, hid, hkd, hpr, x0, x1, x2⟩ := hall _ _ hd
      obtain ⟨Ar, cr, rfl, _, _⟩ := hpr.form
      have HS : Hid (nodsE none g.nodes = nodsE (prev g.nodes k) (d :: g.nodes.drop (k + 1))) := by rw [HA.out, drop_cons hd]; rfl
      have hlt' : (k : Int) < (g.nodes.length : Int) := by omega
      have hidc := rid_any d.id wr
      have HND : Hid (∀ W', Below wr.heap.size wr W' → Calls Tryz.prog 41 #[.agg #[.int .i64 d.id, .string d.kind, .slice Ar d.props.length cr]] W' fun e w' => e = .returned (.int .i64 (nodE d)) ∧ Below W'.heap.size W' w') := fun W' h => rnode_any d _ W' hkd (hpr.below h)
      have HP : Hid (prev g.nodes (k + 1) = some d) := hd
      clear HA hpr hid hkd
      cases h3 : idB d.id with
      | false =>
        have HE : Hid (grfE g = 1) := by
          have : nodsE none g.nodes = 1 := by rw [HS.out]; simp only [nodsE, h3, if_true]
          unfold Hid; rw [HG.out, if_neg (by rw [this]; decide), this]
        rw [h3] at hidc
        clear hall hd HS HG HND
        go_wp2_with fail
        refine hidc.mono ?_
        clear hidc
        rintro e w1 ⟨rfl, rfl⟩
        go_wp2_with fail
        go_ret
        exact ⟨by rw [HE.out]; rfl, hb0.trans (hb.mono hb0.size)⟩
      | true =>
        rw [h3] at hidc
        rcases Nat.eq_zero_or_pos k with hk0 | hk0
        · have hkd0 : decide ((0 : Int) < (k : Int)) = false := by simp; omega
          have hkd1 : (k : Int) ≤ 0 := by omega
          have hkd2 : decide (0 < k) = false := by simp; omega
          have HS' : Hid (nodsE none g.nodes = if nodE d = 0 then nodsE (some d) (g.nodes.drop (k + 1)) else nodE d) := by
            rw [HS.out, hk0]; simp only [nodsE, prev, h3, Bool.true_eq_false, if_false]; rfl
          have HGO : Hid (nodE d = 0 → nodsE none g.nodes = nodsE (prev g.nodes (k + 1)) (g.nodes.drop (k + 1))) := fun h => by rw [HS'.out, if_pos h, HP.out]
          have HST : Hid (nodE d ≠ 0 → grfE g = nodE d) := fun h => by
            have : nodsE none g.nodes = nodE d := by rw [HS'.out, if_neg h]
            rw [HG.out, if_neg (by rw [this]; exact h), this]
          clear hall hd hk0 HS HS'
          generalize nodE d = z at *
          go_wp2_with fail
          refine hidc.mono ?_
          clear hidc
          rintro e w1 ⟨rfl, rfl⟩
          go_wp2_with fail
          go_quiet (fail)
          have hnode := HND.out (wr.drewN nq) (below_drewN (Below.refl _ _) nq)
          have hbq := below_drewN hb nq
          clear HND
          go_wp2_with fail
          -- behind region 9: the node by itself
          refine hnode.mono ?_
          clear hnode
          rintro e w1 ⟨rfl, hb1⟩
          have hb2 := hbq.trans (hb1.mono hbq.size)
          by_cases hz : z = 0
          · have HT := Lib.hid (HGO.out hz)
            subst hz
            clear HGO HST
            go_wp2_with fail
            go_roundw
            case rel => exact ⟨k + 1, by omega, by go_num, hb2, HT⟩
            case measure => simp [intOf]; omega
          · have HE : Hid (grfE g = z) := HST.out hz
            have hzb : (z != 0) = true := by simpa using hz
            clear HGO HST hz
            go_wp2_with fail
            go_ret
            exact ⟨by rw [HE.out]; rfl, hb0.trans (hb2.mono hb0.size)⟩
        · obtain ⟨p, hp⟩ : ∃ p, g.nodes[k - 1]? = some p := ⟨_, List.getElem?_eq_getElem (by omega)⟩
          obtain ⟨u', hid', _, _, y0, _, _⟩ := hall _ _ hp
          have hkd0 : (0 : Int) < (k : Int) := by omega
          have hkd1 : decide ((0 : Int) < (k : Int)) = true := by simp; omega
          have hkd2 : decide (0 < k) = true := by simp; omega
          have hpv : prev g.nodes k = some p := by
            obtain ⟨m, rfl⟩ : ∃ m, k = m + 1 := ⟨k - 1, by omega⟩
            exact hp
          by_cases h5 : d.id ≤ p.id
          · have h5' : decide (d.id ≤ p.id) = true := by simpa using h5
            have HE : Hid (grfE g = 7) := by
              have : nodsE none g.nodes = 7 := by rw [HS.out, hpv]; simp only [nodsE, h3, h5', Bool.true_eq_false, if_false, if_true]
              unfold Hid; rw [HG.out, if_neg (by rw [this]; decide), this]
            clear hall hd hp HS hpv HND HG
            go_wp2_with fail
            refine hidc.mono ?_
            clear hidc
            rintro e w1 ⟨rfl, rfl⟩
            go_wp2_with fail
            go_quiet (fail)
            go_wp2_with fail
            go_ret
            exact ⟨by rw [HE.out]; rfl, hb0.trans ((below_drewN hb _).mono hb0.size)⟩
          · have h5' : decide (d.id ≤ p.id) = false := by simpa using h5
            have h5'' : p.id < d.id := by omega
            have HS' : Hid (nodsE none g.nodes = if nodE d = 0 then nodsE (some d) (g.nodes.drop (k + 1)) else nodE d) := by
              unfold Hid; rw [HS.out, hpv]; simp only [nodsE, h3, h5', Bool.true_eq_false, if_false, Bool.false_eq_true]
            have HGO : Hid (nodE d = 0 → nodsE none g.nodes = nodsE (prev g.nodes (k + 1)) (g.nodes.drop (k + 1))) := fun h => by rw [HS'.out, if_pos h, HP.out]
            have HST : Hid (nodE d ≠ 0 → grfE g = nodE d) := fun h => by
              have : nodsE none g.nodes = nodE d := by rw [HS'.out, if_neg h]
              rw [HG.out, if_neg (by rw [this]; exact h), this]
            clear hall hd hp HS hpv h5 HS'
            generalize nodE d = z at *
            go_wp2_with fail
            refine hidc.mono ?_
            clear hidc
            rintro e w1 ⟨rfl, rfl⟩
            go_wp2_with fail
            go_quiet (fail)
            have hnode := HND.out (wr.drewN nq) (below_drewN (Below.refl _ _) nq)
            have hbq := below_drewN hb nq
            clear HND
            go_wp2_with fail
            -- behind region 9: the node by itself
            refine hnode.mono ?_
            clear hnode
            rintro e w1 ⟨rfl, hb1⟩
            have hb2 := hbq.trans (hb1.mono hbq.size)
            by_cases hz : z = 0
            · have HT := Lib.hid (HGO.out hz)
              subst hz
              clear HGO HST
              go_wp2_with fail
              go_roundw
              case rel => exact ⟨k + 1, by omega, by go_num, hb2, HT⟩
              case measure => simp [intOf]; omega
            · have HE : Hid (grfE g = z) := HST.out hz
              have hzb : (z != 0) = true := by simpa using hz
              clear HGO HST hz
              go_wp2_with fail
              go_ret
              exact ⟨by rw [HE.out]; rfl, hb0.trans (hb2.mono hb0.size)⟩
    · have hkl : k = g.nodes.length := by omega
      subst hkl
      have HT : Hid (grfE g = tiesE none g.ties) := by
        have : nodsE none g.nodes = 0 := by rw [HA.out, List.drop_length]; rfl
        unfold Hid; rw [HG.out, if_pos this]
      clear HG HA HN0
      obtain ⟨wo, rfl⟩ : ∃ wo : World, wo = wr := ⟨_, rfl⟩
      go_wp2_with fail
      go_loopw [6] (fun i wr => ∃ k : Nat, k ≤ g.ties.length ∧ i = .int .i64 k ∧ Below W.heap.size W wr ∧ Hid (tiesE none g.ties = tiesE (prev g.ties k) (g.ties.drop k))) (fun i _ => g.ties.length - (intOf i).toNat)
      case atStart => exact ⟨0, Nat.zero_le _, rfl, hb, rfl⟩
      case round =>
        clear r0 r1
        obtain ⟨k, hk, rfl, hc, HA⟩ := hrel
        have r1 : wr.cell? ⟨w.heap.size, 1, none⟩ = some (.slice A' g.ties.length c') := cell_below hc q1
        by_cases hlt : k < g.ties.length
        · obtain ⟨d, hd⟩ : ∃ d, g.ties[k]? = some d := ⟨_, List.getElem?_eq_getElem hlt⟩
          obtain ⟨b, o, rfl, hall⟩ := tie_all (HT0.out.below hc) (by omega)
          obtain ⟨hok, x0, x1, x2⟩ := hall _ _ hd
          have HS : Hid (tiesE none g.ties = tiesE (prev g.ties k) (d :: g.ties.drop (k + 1))) := by rw [HA.out, drop_cons hd]; rfl
          have HP : Hid (prev g.ties (k + 1) = some d) := hd
          have htie := rtie_any d wr hok.1
          have hlt' : (k : Int) < (g.ties.length : Int) := by omega
          clear HA
          by_cases h4 : tieE d = 0
          case neg =>
            have HE : Hid (grfE g = tieE d) := by
              have : tiesE none g.ties = tieE d := by rw [HS.out]; simp only [tiesE, h4, if_false]
              unfold Hid; rw [HT.out, this]
            clear hall hd HS
            generalize tieE d = z at *
            have hzb : (z != 0) = true := by simpa using h4
            clear h4
            go_wp2_with fail
            refine htie.mono ?_
            clear htie
            rintro e w1 ⟨rfl, hb1⟩
            go_wp2_with fail
            go_ret
            exact ⟨by rw [HE.out]; rfl, hb0.trans ((hc.trans (hb1.mono hc.size)).mono hb0.size)⟩
          rw [h4] at htie
          rcases Nat.eq_zero_or_pos k with hk0 | hk0
          · have hkd0 : ((k : Int) == 0) = true := by simp; omega
            have hkd2 : (k == 0) = true := by simp; omega
            have hkd1 : (k : Int) ≤ 0 := by omega
            have HT' : Hid (tiesE none g.ties = tiesE (prev g.ties (k + 1)) (g.ties.drop (k + 1))) := by
              unfold Hid; rw [HS.out, HP.out, hk0]; simp [tiesE, prev, h4]
            have hkd3 : decide (k = 0) = true := by simp; omega
            clear hall hd hk0 HS h4 HP
            go_wp2_with fail
            refine htie.mono ?_
            clear htie
            rintro e w1 ⟨rfl, hb1⟩
            have hb2 := hc.trans (hb1.mono hc.size)
            go_wp2_with fail
            go_quiet (fail)
            go_wp2_with fail
            go_roundw
            case rel => exact ⟨k + 1, by omega, by go_num, below_drewN hb2 _, HT'⟩
            case measure => simp [intOf]; omega
          · obtain ⟨p, hp⟩ : ∃ p, g.ties[k - 1]? = some p := ⟨_, List.getElem?_eq_getElem (by omega)⟩
            obtain ⟨hok', y0, y1, y2⟩ := hall _ _ hp
            have hkd0 : ((k : Int) == 0) = false := by simp; omega
            have hkd3 : (0 : Int) < (k : Int) := by omega
            have hkd4 : ¬ k = 0 := by omega
            have hpv : prev g.ties k = some p := by
              obtain ⟨m, rfl⟩ : ∃ m, k = m + 1 := ⟨k - 1, by omega⟩
              exact hp
            have hord := fun (x : World) => rless_any p d x
            have HNO : Hid (decide (tieO p d < 0) = false → grfE g = 7) := fun h => by
              have h5' : decide (0 ≤ tieO p d) = true := decide_eq_true (by have := of_decide_eq_false h; omega)
              have : tiesE none g.ties = 7 := by rw [HS.out, hpv]; simp only [tiesE, h4, h5', if_true]
              rw [HT.out, this]
            have HYES : Hid (decide (tieO p d < 0) = true → tiesE none g.ties = tiesE (prev g.ties (k + 1)) (g.ties.drop (k + 1))) := fun h => by
              have h5' : decide (0 ≤ tieO p d) = false := decide_eq_false (by have := of_decide_eq_true h; omega)
              rw [HS.out, HP.out, hpv]; simp only [tiesE, h4, h5', if_true, Bool.false_eq_true, if_false]
            clear hall hd hp HS hpv h4 HP hok hok'
            generalize decide (tieO p d < 0) = q at *
            go_wp2_with fail
            refine htie.mono ?_
            clear htie
            rintro e w1 ⟨rfl, hb1⟩
            have hb2 := hc.trans (hb1.mono hc.size)
            have r1 := cell_below hb1 r1
            have x0 := cell_below hb1 x0
            have x1 := cell_below hb1 x1
            have x2 := cell_below hb1 x2
            have y0 := cell_below hb1 y0
            have y1 := cell_below hb1 y1
            have y2 := cell_below hb1 y2
            go_wp2_with fail
            refine wp_mid_g 14 _ rfl rfl (by kernel_rfl) ?_
            simp only [List.take_succ_cons, List.take_zero, List.drop_succ_cons, List.drop_zero]
            repeat (go_big_quiet_step (fail))
            refine wpQuiet_nil ?_
            refine ⟨by simp [Region.wanted, yielded, go_sem], ?_⟩
            intro _ hw'
            obtain ⟨nq, hw''⟩ := hw'
            subst hw''
            intro K hK
            have hk1 := hord (w1.drewN nq)
            clear hord
            go_wp2_with fail
            refine hk1.mono ?_
            clear hk1
            rintro e w2 ⟨rfl, hb3⟩
            have hb12 := (below_drewN (Below.refl w1.heap.size w1) nq).trans hb3
            refine hK _ _ ?_
            repeat (go_big_quiet_step (fail))
            refine wpQuiet_nil ?_
            intro _ hw'
            obtain ⟨nq2, hw''⟩ := hw'
            subst hw''
            clear hK
            have hbX := below_drewN hb12 nq2
            generalize w2.drewN nq2 = w3 at *
            have hb4 := hb2.trans (hbX.mono hb2.size)
            clear hb3 hb12 hbX r1 x0 x1 x2 y0 y1 y2
            cases q with
            | false =>
              have HE : Hid (grfE g = 7) := HNO.out rfl
              clear HNO HYES
              go_wp2_with fail
              go_ret
              exact ⟨by rw [HE.out]; rfl, hb0.trans (hb4.mono hb0.size)⟩
            | true =>
              have HT' := Lib.hid (HYES.out rfl)
              clear HNO HYES
              go_wp2_with fail
              go_roundw
              case rel => exact ⟨k + 1, by omega, by go_num, hb4, HT'⟩
              case measure => simp [intOf]; omega
        · have hkl : k = g.ties.length := by omega
          subst hkl
          have HE : Hid (grfE g = 0) := by
            have : tiesE none g.ties = 0 := by rw [HA.out, List.drop_length]; rfl
            unfold Hid; rw [HT.out, this]
          clear HA HT
          go_wp2_with fail
          go_ret
          exact ⟨by rw [HE.out]; rfl, hb0.trans (hc.mono hb0.size)⟩
end Go.Proofs.YtflidfmpmakggaaGreatDoor
