/- Parts: RgF, Qg, RfG, DelD, DelT, CloN. -/
import Derived.Test.YtngbbefpphinjaaGreatDoorMg02
import Derived.Test.YtngbbefpphinjaaGreatDoorMg03
import Derived.Test.YtngbbefpphinjaaGreatDoorMg07
import Derived.Test.YtngbbefpphinjaaGreatDoorMg05
/- Contract of the reference: kinref1.Find: a node by its number, from the head. No condition. -/
namespace Go.Proofs.YtngbbefpphinjaaGreatDoor
open Go Go.RowKit

def rfI (l : List Nod) (id : Int) : Int := idxI (fun n => decide (n.id = id)) l
set_option maxHeartbeats 1000000 in
theorem rgfind_any (g : Grf) (vn vt : Value) (id : Int) (w : World) (hG : GrfR w vn vt g) :
    Calls Tryz.prog 45 #[.agg #[vn, vt], .int .i64 id] w fun e w' => e = .returned (.int .i64 (rfI g.nodes id)) ∧ Below w.heap.size w w' := by
  obtain ⟨A1, c1, rfl, _, hm1⟩ := hG.1.form
  obtain ⟨A2, c2, rfl, _, hm2⟩ := hG.2.form
  unfold maxLen at hm1 hm2
  have hb0 : Below w.heap.size w (w.alloc (.cells #[.slice A1 g.nodes.length c1, .slice A2 g.ties.length c2] 25)) := (Below.refl _ _).alloc (Nat.le_refl _) _
  obtain ⟨x0, x1⟩ := cell_box2 w (.slice A1 g.nodes.length c1) (.slice A2 g.ties.length c2) 25
  have hf := (hG.below hb0).1
  generalize g.nodes = l at *
  clear hG
  go_enter Tryz.func45, Tryz.ntmps45
  go_wp2_with fail
  generalize w.alloc (.cells #[.slice A1 l.length c1, .slice A2 g.ties.length c2] 25) = w0 at *
  go_loop [5] (fun i => ∃ k : Nat, k ≤ l.length ∧ i = .int .i64 k ∧ Hid (∀ j x, j < k → l[j]? = some x → decide (x.id = id) = false)) (fun i => l.length - (intOf i).toNat)
  case atStart => exact ⟨0, Nat.zero_le _, rfl, fun j x hj => absurd hj (Nat.not_lt_zero _)⟩
  case round =>
    obtain ⟨k, hk, rfl, HA⟩ := hrel
    by_cases hlt : k < l.length
    · obtain ⟨d, hd⟩ : ∃ d, l[k]? = some d := ⟨_, List.getElem?_eq_getElem hlt⟩
      obtain ⟨b, o, rfl, u, _, _, _, c0, _, _⟩ := nod_at hf hd
      have hlt' : (k : Int) < (l.length : Int) := by omega
      have HD : Hid (l[k]? = some d) := hd
      clear hd hf
      by_cases hq0 : d.id = id
      · have HE : Hid (rfI l id = k) := by unfold Hid rfI; exact idxI_hit (p := fun n : Nod => decide (n.id = id)) HA.out HD.out (decide_eq_true hq0)
        have hqb : (d.id == id) = true := by rw [beq_iff_eq]; exact hq0
        clear hq0
        go_wp2_with fail
        go_ret
        exact ⟨by rw [HE.out]; rfl, hb0⟩
      · have hqb : (d.id == id) = false := by rw [beq_eq_false_iff_ne]; exact hq0
        have HS : Hid (∀ j y, j < k + 1 → l[j]? = some y → decide (y.id = id) = false) := miss_step (p := fun n : Nod => decide (n.id = id)) HA.out HD.out (decide_eq_false hq0)
        clear hq0
        go_wp2_with fail
        go_round
        case rel => exact ⟨k + 1, by omega, by go_num, HS⟩
        case measure => simp [intOf]; omega
    · have hkl : k = l.length := by omega
      subst hkl
      have HE : Hid (rfI l id = -1) := by unfold Hid rfI; exact idxI_miss (p := fun n : Nod => decide (n.id = id)) HA.out
      clear hf
      go_wp2_with fail
      go_ret
      exact ⟨by rw [HE.out]; rfl, hb0⟩
end Go.Proofs.YtngbbefpphinjaaGreatDoor

/- As Qm: the operation in the middle may be guarded; its guard lets it be done. Conditions: the Bool on the region. -/
namespace Go.Proofs.YtngbbefpphinjaaGreatDoor
open Go Go.RowKit Go.Sort
section
variable {P : Program} {ops : Array Oper} {md : Region.Mode} {C : World → Prop}
theorem wp_region_midg {id : Nat} {Q : Exit → Act → World → Prop} {a : Act} {w : World} {l : List Oper} (n : Nat) (om : Oper) (hom : l[n]? = some om) (hm : P.follows .mixedOrders = true) (hB : midB .any l.toArray n = true)
    (hC : C { w with drawn := w.drawn + 1 })
    (h : wpQuiet P l.toArray C (fun a' => Region.wanted om (yielded l.toArray a'.tmps) = true ∧ ∀ w', C w' → om.wp P a' w' (fun a2 w2 => wpQuiet P l.toArray (fun x => ∃ n, x = w2.drewN n) (fun a3 => ∀ w3, (∃ n, w3 = w2.drewN n) → Q .normal a3 w3) (l.drop (n + 1)) a2) Q) (l.take n) a) : (Code.region id l.toArray true).wp P Q a w := by
  simp only [midB, Bool.and_eq_true, decide_eq_true_eq] at hB
  obtain ⟨⟨⟨⟨hsel, hn⟩, hs⟩, hc⟩, hlex⟩ := hB
  have hn' : n < l.length := by simpa using hn
  have htl : (l.take n).length = n := by simp; omega
  have hdl : (l.drop (n + 1)).length = l.toArray.size - n - 1 := by simp; omega
  have inv0 : HeadInv .any l.toArray n (Array.replicate l.toArray.size false) :=
    ⟨by simp, fun j oj _ hl => (by rw [getD_replicate_false] at hl; cases hl), fun t _ ht => getD_in (by simpa using ht) (getD_replicate_false _ _)⟩
  have H := wpAnyLQ_lex2 (C := C) (md := .any) (g := l.toArray.size - n - 1) hsel hs hc hn (l.take n) 0 _ a (fun j hj => by
    have hj' : j < n := by rw [htl] at hj; exact hj
    simp [hj']) (by simpa using htl) inv0 (by rw [htl]; exact hlex) h
  refine wp_region_any hm ?_
  have key := wpAny_of_headQ (C := C) (Q' := Q) (g := l.toArray.size - n - 1 + 1) (fun listed a' w' hw' hL => by
    have h1 := hL.1
    simp only [midRest, Bool.and_eq_true, decide_eq_true_eq] at h1
    refine ⟨fun h0 => (by rw [h1.1] at h0; cases h0), fun i hi => ?_⟩
    rw [h1.1] at hi
    obtain rfl : i = n := by simpa using hi
    have h0 : l.toArray[i]? = some om := by simpa using hom
    unfold wpOp
    simp only [h0]
    have hw := hL.2.1
    simp only [hw, if_true]
    refine .inl ?_
    have h2 := hL.2.2 w' hw'
    unfold Oper.wp at h2 ⊢
    generalize (execOp a'.eval om).run P w' = r at h2 ⊢
    have step : ∀ a2 w2, wpQuiet P l.toArray (fun x => ∃ n, x = w2.drewN n) (fun a3 => ∀ w3, (∃ n, w3 = w2.drewN n) → Q .normal a3 w3) (l.drop (i + 1)) a2 →
        wpAny P .any l.toArray Q (l.toArray.size - i - 1) (listed.setIfInBounds i true) a2 w2 := fun a2 w2 hq => by
      have h3 := wpAnyQ_lex (C := fun x => ∃ n, x = w2.drewN n) (md := .any) hsel (l.drop (i + 1)) (i + 1) (listed.setIfInBounds i true) a2 (fun j => by simp [List.getElem?_drop]) (by rw [hdl]; exact h1.2) hq
      rw [hdl] at h3
      exact wpAny_of_quiet (Q := fun a3 => ∀ w3, (∃ n, w3 = w2.drewN n) → Q .normal a3 w3) (fun _ w3 hw3 h => h w3 hw3) _ _ _ _ ⟨0, rfl⟩ h3
    cases r with
    | ok nx w2 =>
      cases nx <;> simp only [Oper.upon] at h2 ⊢
      case value v => exact step _ _ h2
      case skip => exact step _ _ h2
      case defer d => exact step _ _ h2
      case enter f args =>
        refine h2.mono fun e w3 h3 => ?_
        cases e with
        | returned v => exact step _ _ h3
        | panicked c => exact h3
        | outgrown => exact h3
      case row r args => exact h2.mono fun v w3 h3 => step _ _ h3
      all_goals first | exact h2.elim | exact h2
    | halt hh w2 =>
      cases hh <;> simp only [Oper.upon] at h2 ⊢
      all_goals first | exact h2 | exact h2.elim) _ _ _ _ hC H
  rw [htl, show n + (l.toArray.size - n - 1 + 1) = l.toArray.size by simp only [List.size_toArray]; omega] at key
  exact key

theorem wp_mid_g {id : Nat} {Q : Exit → Act → World → Prop} {a : Act} {w : World} {l : List Oper} (n : Nat) (om : Oper) (hom : l[n]? = some om) (hm : P.follows .mixedOrders = true) (hB : midB .any l.toArray n = true)
    (h : wpQuiet P l.toArray (fun w' => ∃ n, w' = w.drewN n) (fun a' => Region.wanted om (yielded l.toArray a'.tmps) = true ∧ ∀ w', (∃ n, w' = w.drewN n) → ∀ K : Act → World → Prop, (∀ a2 w2, wpQuiet P l.toArray (fun x => ∃ n, x = w2.drewN n) (fun a3 => ∀ w3, (∃ n, w3 = w2.drewN n) → Q .normal a3 w3) (l.drop (n + 1)) a2 → K a2 w2) → om.wp P a' w' K Q) (l.take n) a) : (Code.region id l.toArray true).wp P Q a w :=
  wp_region_midg (C := fun w' => ∃ n, w' = w.drewN n) n om hom hm hB ⟨1, rfl⟩ (wpQuiet_mono (fun _ h => ⟨h.1, fun w' hw' => h.2 w' hw' _ fun _ _ h => h⟩) _ _ h)
end
end Go.Proofs.YtngbbefpphinjaaGreatDoor

/- Contracts of the references: kinref1.Id, Node, Tie, Less, Graph: what is wrong with a graph. No condition. -/
namespace Go.Proofs.YtngbbefpphinjaaGreatDoor
open Go Go.RowKit


theorem rid_any (n : Int) (w : World) : Calls Tryz.prog 41 #[.int .i64 n] w fun e w' => e = .returned (.bool (idB n)) ∧ w = w' := by
  have HE : Hid (idB n = (decide (1 ≤ n) && decide (n ≤ 1000))) := rfl
  by_cases h1 : 1 ≤ n
  · have HB : Hid (idB n = decide (n ≤ 1000)) := by unfold Hid; rw [HE.out, decide_eq_true h1]; rfl
    clear HE
    go_enter Tryz.func41, Tryz.ntmps41
    go_wp2_with fail
    go_ret
    exact ⟨by rw [HB.out]; rfl, rfl⟩
  · have HB : Hid (idB n = false) := by unfold Hid; rw [HE.out, decide_eq_false h1]; rfl
    have h1' : n < 1 := by omega
    clear HE h1
    go_enter Tryz.func41, Tryz.ntmps41
    go_wp2_with fail
    go_ret
    exact ⟨by rw [HB.out]; rfl, rfl⟩
set_option maxHeartbeats 1000000 in
theorem rnode_any (n : Nod) (v : Value) (w : World) (hi : Sm n.kind) (hv : Sl prpL w v n.props) :
    Calls Tryz.prog 42 #[.agg #[.int .i64 n.id, .string n.kind, v]] w fun e w' => e = .returned (.int .i64 (nodE n)) ∧ Below w.heap.size w w' := by
  obtain ⟨A, c, rfl, _, _⟩ := hv.form
  have HF : Hid (nodE n = if idB n.id = false then 1 else if nameE n.kind = 0 then recE n.props else nameE n.kind) := rfl
  obtain ⟨id, kind, props⟩ := n
  have hi' : Sm kind := hi
  have hv : Sl prpL w (.slice A props.length c) props := hv
  have hb0 : Below w.heap.size w (w.alloc (.cells #[.int .i64 id, .string kind, .slice A props.length c] 29)) := (Below.refl _ _).alloc (Nat.le_refl _) _
  have h1 := rid_any id (w.alloc (.cells #[.int .i64 id, .string kind, .slice A props.length c] 29))
  have h2 := rname_any kind (w.alloc (.cells #[.int .i64 id, .string kind, .slice A props.length c] 29)) hi'
  have h3 := rrecord_any props _ _ (hv.below hb0)
  cases hq : idB id with
  | false =>
    have HE : Hid (nodE ⟨id, kind, props⟩ = 1) := by unfold Hid; rw [HF.out]; simp only [hq, if_true]
    rw [hq] at h1
    clear hv h2 h3 hq HF
    go_enter Tryz.func42, Tryz.ntmps42
    go_wp2_with fail
    refine h1.mono ?_
    clear h1
    rintro e w1 ⟨rfl, rfl⟩
    go_wp2_with fail
    go_ret
    exact ⟨by rw [HE.out]; rfl, hb0⟩
  | true =>
    rw [hq] at h1
    by_cases hn : nameE kind = 0
    · have HE : Hid (nodE ⟨id, kind, props⟩ = recE props) := by unfold Hid; rw [HF.out]; simp only [hq, hn, if_true, Bool.true_eq_false, if_false]
      rw [hn] at h2
      clear hv hq HF hn
      generalize recE props = z at *
      go_enter Tryz.func42, Tryz.ntmps42
      go_wp2_with fail
      refine h1.mono ?_
      clear h1
      rintro e w1 ⟨rfl, rfl⟩
      go_wp2_with fail
      refine h2.mono ?_
      clear h2
      rintro e w1 ⟨rfl, rfl⟩
      go_wp2_with fail
      refine h3.mono ?_
      clear h3
      rintro e w2 ⟨rfl, hb2⟩
      go_wp2_with fail
      go_ret
      exact ⟨by rw [HE.out]; rfl, hb0.trans (hb2.mono hb0.size)⟩
    · have HE : Hid (nodE ⟨id, kind, props⟩ = 2) := by unfold Hid; rw [HF.out]; simp only [hq, hn, Bool.true_eq_false, if_false]; exact nameE_two hn
      rw [nameE_two hn] at h2
      clear hv hq HF hn h3
      go_enter Tryz.func42, Tryz.ntmps42
      go_wp2_with fail
      refine h1.mono ?_
      clear h1
      rintro e w1 ⟨rfl, rfl⟩
      go_wp2_with fail
      refine h2.mono ?_
      clear h2
      rintro e w1 ⟨rfl, rfl⟩
      go_wp2_with fail
      go_ret
      exact ⟨by rw [HE.out]; rfl, hb0⟩
set_option maxHeartbeats 1000000 in
theorem rtie_any (t : Tie) (w : World) (hs : Sm t.bond) :
    Calls Tryz.prog 43 #[.agg #[.string t.bond, .int .i64 t.src, .int .i64 t.dst]] w fun e w' => e = .returned (.int .i64 (tieE t)) ∧ Below w.heap.size w w' := by
  have HF : Hid (tieE t = if nameE t.bond = 0 then (if (idB t.src && idB t.dst) then 0 else 1) else nameE t.bond) := rfl
  obtain ⟨bond, src, dst⟩ := t
  have hs : Sm bond := hs
  have hb0 : Below w.heap.size w (w.alloc (.cells #[.string bond, .int .i64 src, .int .i64 dst] 35)) := (Below.refl _ _).alloc (Nat.le_refl _) _
  have h1 := rname_any bond (w.alloc (.cells #[.string bond, .int .i64 src, .int .i64 dst] 35)) hs
  have h2 := rid_any src (w.alloc (.cells #[.string bond, .int .i64 src, .int .i64 dst] 35))
  have h3 := rid_any dst (w.alloc (.cells #[.string bond, .int .i64 src, .int .i64 dst] 35))
  by_cases hn : nameE bond = 0
  · rw [hn] at h1
    have HG : Hid (tieE ⟨bond, src, dst⟩ = if (idB src && idB dst) then 0 else 1) := by unfold Hid; rw [HF.out]; simp only [hn, if_true]
    clear hn HF
    generalize idB src = p at *
    generalize idB dst = q at *
    cases p with
    | false =>
      have HE : Hid (tieE ⟨bond, src, dst⟩ = 1) := HG.out
      cases q with
      | false =>
        go_enter Tryz.func43, Tryz.ntmps43
        go_wp2_with fail
        refine h1.mono ?_
        clear h1
        rintro e w1 ⟨rfl, rfl⟩
        go_wp2_with fail
        refine h2.mono ?_
        clear h2
        rintro e w1 ⟨rfl, rfl⟩
        go_wp2_with fail
        refine h3.mono ?_
        clear h3
        rintro e w1 ⟨rfl, rfl⟩
        go_wp2_with fail
        go_ret
        exact ⟨by rw [HE.out]; rfl, hb0⟩
      | true =>
        go_enter Tryz.func43, Tryz.ntmps43
        go_wp2_with fail
        refine h1.mono ?_
        clear h1
        rintro e w1 ⟨rfl, rfl⟩
        go_wp2_with fail
        refine h2.mono ?_
        clear h2
        rintro e w1 ⟨rfl, rfl⟩
        go_wp2_with fail
        refine h3.mono ?_
        clear h3
        rintro e w1 ⟨rfl, rfl⟩
        go_wp2_with fail
        go_ret
        exact ⟨by rw [HE.out]; rfl, hb0⟩
    | true =>
      cases q with
      | false =>
        have HE : Hid (tieE ⟨bond, src, dst⟩ = 1) := HG.out
        go_enter Tryz.func43, Tryz.ntmps43
        go_wp2_with fail
        refine h1.mono ?_
        clear h1
        rintro e w1 ⟨rfl, rfl⟩
        go_wp2_with fail
        refine h2.mono ?_
        clear h2
        rintro e w1 ⟨rfl, rfl⟩
        go_wp2_with fail
        refine h3.mono ?_
        clear h3
        rintro e w1 ⟨rfl, rfl⟩
        go_wp2_with fail
        go_ret
        exact ⟨by rw [HE.out]; rfl, hb0⟩
      | true =>
        have HE : Hid (tieE ⟨bond, src, dst⟩ = 0) := HG.out
        go_enter Tryz.func43, Tryz.ntmps43
        go_wp2_with fail
        refine h1.mono ?_
        clear h1
        rintro e w1 ⟨rfl, rfl⟩
        go_wp2_with fail
        refine h2.mono ?_
        clear h2
        rintro e w1 ⟨rfl, rfl⟩
        go_wp2_with fail
        refine h3.mono ?_
        clear h3
        rintro e w1 ⟨rfl, rfl⟩
        go_wp2_with fail
        go_ret
        exact ⟨by rw [HE.out]; rfl, hb0⟩
  · rw [nameE_two hn] at h1
    have HE : Hid (tieE ⟨bond, src, dst⟩ = 2) := by unfold Hid; rw [HF.out]; simp only [hn, if_false]; exact nameE_two hn
    clear hn HF
    generalize idB src = p at *
    generalize idB dst = q at *
    cases p with
    | false =>
      cases q with
      | false =>
        go_enter Tryz.func43, Tryz.ntmps43
        go_wp2_with fail
        refine h1.mono ?_
        clear h1
        rintro e w1 ⟨rfl, rfl⟩
        go_wp2_with fail
        refine h2.mono ?_
        clear h2
        rintro e w1 ⟨rfl, rfl⟩
        go_wp2_with fail
        refine h3.mono ?_
        clear h3
        rintro e w1 ⟨rfl, rfl⟩
        go_wp2_with fail
        go_ret
        exact ⟨by rw [HE.out]; rfl, hb0⟩
      | true =>
        go_enter Tryz.func43, Tryz.ntmps43
        go_wp2_with fail
        refine h1.mono ?_
        clear h1
        rintro e w1 ⟨rfl, rfl⟩
        go_wp2_with fail
        refine h2.mono ?_
        clear h2
        rintro e w1 ⟨rfl, rfl⟩
        go_wp2_with fail
        refine h3.mono ?_
        clear h3
        rintro e w1 ⟨rfl, rfl⟩
        go_wp2_with fail
        go_ret
        exact ⟨by rw [HE.out]; rfl, hb0⟩
    | true =>
      cases q with
      | false =>
        go_enter Tryz.func43, Tryz.ntmps43
        go_wp2_with fail
        refine h1.mono ?_
        clear h1
        rintro e w1 ⟨rfl, rfl⟩
        go_wp2_with fail
        refine h2.mono ?_
        clear h2
        rintro e w1 ⟨rfl, rfl⟩
        go_wp2_with fail
        refine h3.mono ?_
        clear h3
        rintro e w1 ⟨rfl, rfl⟩
        go_wp2_with fail
        go_ret
        exact ⟨by rw [HE.out]; rfl, hb0⟩
      | true =>
        go_enter Tryz.func43, Tryz.ntmps43
        go_wp2_with fail
        refine h1.mono ?_
        clear h1
        rintro e w1 ⟨rfl, rfl⟩
        go_wp2_with fail
        refine h2.mono ?_
        clear h2
        rintro e w1 ⟨rfl, rfl⟩
        go_wp2_with fail
        refine h3.mono ?_
        clear h3
        rintro e w1 ⟨rfl, rfl⟩
        go_wp2_with fail
        go_ret
        exact ⟨by rw [HE.out]; rfl, hb0⟩
theorem less_bond {a b : Tie} (h : a.bond ≠ b.bond) : decide (tieO a b < 0) = Op.bytesLess a.bond.toList b.bond.toList := by
  have h1 : cmpS a.bond b.bond ≠ 0 := fun e => h (cmpS_zero.1 e)
  have h2 : Op.bytesLess a.bond.toList b.bond.toList = decide (cmpS a.bond b.bond < 0) := ltS_cmp a.bond b.bond
  rw [h2]
  unfold tieO orI
  rw [if_neg h1]
theorem less_src {a b : Tie} (h : a.bond = b.bond) (h2 : a.src ≠ b.src) : decide (tieO a b < 0) = decide (a.src < b.src) := by
  have h1 : cmpS a.bond b.bond = 0 := cmpS_zero.2 h
  unfold tieO orI
  rw [if_pos h1]
  unfold orI cmpI
  by_cases h3 : a.src < b.src
  · simp [h3]
  · have h4 : b.src < a.src := by omega
    simp [h3, h4]
theorem less_dst {a b : Tie} (h : a.bond = b.bond) (h2 : a.src = b.src) : decide (tieO a b < 0) = decide (a.dst < b.dst) := by
  have h1 : cmpS a.bond b.bond = 0 := cmpS_zero.2 h
  unfold tieO orI
  rw [if_pos h1]
  unfold orI cmpI
  rw [h2]
  by_cases h3 : a.dst < b.dst
  · simp [h3, orI]
  · by_cases h4 : b.dst < a.dst <;> simp [h3, h4, orI]
set_option maxHeartbeats 1000000 in
theorem rless_any (a b : Tie) (w : World) :
    Calls Tryz.prog 44 #[.agg #[.string a.bond, .int .i64 a.src, .int .i64 a.dst], .agg #[.string b.bond, .int .i64 b.src, .int .i64 b.dst]] w fun e w' => e = .returned (.bool (decide (tieO a b < 0))) ∧ Below w.heap.size w w' := by
  have hb0 : Below w.heap.size w ((w.alloc (.cells #[.string a.bond, .int .i64 a.src, .int .i64 a.dst] 35)).alloc (.cells #[.string b.bond, .int .i64 b.src, .int .i64 b.dst] 35)) := ((Below.refl _ _).alloc (Nat.le_refl _) _).alloc (by simp) _
  have hbb : (a.bond.toList == b.bond.toList) = decide (a.bond = b.bond) := bytes_beq a.bond b.bond
  by_cases h1 : a.bond = b.bond
  · rw [decide_eq_true h1] at hbb
    have hbc : a.bond.toList = b.bond.toList := by rw [h1]
    by_cases h2 : a.src = b.src
    · have HE : Hid (decide (tieO a b < 0) = decide (a.dst < b.dst)) := less_dst h1 h2
      have h2b : (a.src != b.src) = false := by simpa using h2
      clear h1 h2
      go_enter Tryz.func44, Tryz.ntmps44
      go_wp2_with fail
      go_ret
      exact ⟨by rw [HE.out]; rfl, hb0⟩
    · have HE : Hid (decide (tieO a b < 0) = decide (a.src < b.src)) := less_src h1 h2
      have h2b : (a.src != b.src) = true := by simpa using h2
      clear h1 h2
      go_enter Tryz.func44, Tryz.ntmps44
      go_wp2_with fail
      go_ret
      exact ⟨by rw [HE.out]; rfl, hb0⟩
  · have HE : Hid (decide (tieO a b < 0) = Op.bytesLess a.bond.toList b.bond.toList) := less_bond h1
    rw [decide_eq_false h1] at hbb
    have hbc : ¬ a.bond.toList = b.bond.toList := by rw [bytes_eq]; exact h1
    clear h1
    go_enter Tryz.func44, Tryz.ntmps44
    go_wp2_with fail
    go_ret
    exact ⟨by rw [HE.out]; rfl, hb0⟩
end Go.Proofs.YtngbbefpphinjaaGreatDoor

/- Plain law of the model: the shift down of slices.Delete, by one element. No condition. -/
namespace Go.Proofs.YtngbbefpphinjaaGreatDoor
open Go Go.RowKit

theorem Own.shift {P : Program} {w : World} {B : Nat} {e : TypeId} {g o n c i sz : Nat} {xs : List Value} (t : TypeId) (i0 : TypeInfo) (ht : P.underlying t = some (.slice e)) (hi : P.info? e = some i0) (hs : i0.size = sz)
    (h : Own w B e sz (.slice (some ⟨g, o, none⟩) n c) n xs) (hx1 : ∀ u ∈ xs, u.oneCell' = true) (hin : i < n) (a : Addr) (ha : ∀ j u, (xs.drop ((i + 1) * sz))[j]? = some u → w.cell? (a.add j) = some u) :
    ∃ w', (∀ ty c', (Builtin.append_ #[t, t] ty #[.slice (some ⟨g, o, none⟩) i c, .slice (some a) (n - (i + 1)) c']).run P w = .ok (.slice (some ⟨g, o, none⟩) (n - 1) c) w') ∧
      Own w' B e sz (.slice (some ⟨g, o, none⟩) n c) n (xs.take (i * sz) ++ xs.drop ((i + 1) * sz) ++ xs.drop ((n - 1) * sz)) ∧ w.grownBy w' (some g) := by
  rcases h.2 with ⟨h0, _⟩ | ⟨g', o', cap, cur, hv, hb, hg, h2, h3, h4, h5⟩
  · cases h0
  · injection hv with e1 _ e3
    injection e1 with e1
    injection e1 with e1 e2
    subst e1; subst e2; subst e3
    have hlen := h.1
    have hnc : n * sz ≤ c * sz := Nat.mul_le_mul_right _ h2
    have hin2 : i * sz + sz ≤ n * sz := by have := Nat.mul_le_mul_right sz (show i + 1 ≤ n by omega); rw [Nat.add_mul, Nat.one_mul] at this; exact this
    have e5 : (i + 1) * sz = i * sz + sz := by rw [Nat.add_mul, Nat.one_mul]
    have e6 : (n - 1) * sz = n * sz - sz := by rw [Nat.sub_mul, Nat.one_mul]
    have e7 : (n - (i + 1)) * sz = n * sz - (i * sz + sz) := by rw [Nat.sub_mul, e5]
    have hdl : (xs.drop ((i + 1) * sz)).length = (n - (i + 1)) * sz := by rw [List.length_drop, hlen, Nat.sub_mul]
    have e8 : i + (n - (i + 1)) = n - 1 := by omega
    refine ⟨w.setRow g (cur.toList.take (o + i * sz) ++ xs.drop ((i + 1) * sz) ++ cur.toList.drop (o + i * sz + (xs.drop ((i + 1) * sz)).length)).toArray, fun ty c' => ?_, ⟨?_, .inr ⟨g, o, c, _, rfl, hb, setRow_heap w g cur _ e _ hg, h2, h3, ?_, ?_⟩⟩, grownBy_setRow⟩
    · have := run_append_at (P := P) w t ty e i0 ht hi g o i c cur hg a (n - (i + 1)) c' (xs.drop ((i + 1) * sz)) (by rw [hs, hdl]) ha (fun u hu => hx1 u (List.mem_of_mem_drop hu)) (by omega) (by rw [hs, hdl, e7]; omega)
      rw [hs, e8] at this
      exact this
    · simp only [List.length_append, List.length_take, List.length_drop, hlen, e5, e6]
      omega
    · simp only [List.size_toArray, List.length_append, List.length_take, List.length_drop, Array.length_toList, hlen, e5]
      omega
    · have hcl : cur.toList = cur.toList.take o ++ xs ++ cur.toList.drop (o + n * sz) := by
        conv => lhs; rw [← List.take_append_drop o cur.toList, ← List.take_append_drop (n * sz) (cur.toList.drop o), h5]
        rw [List.drop_drop, List.append_assoc]
      have hol : (cur.toList.take o).length = o := by simp; omega
      generalize cur.toList.take o = A at *
      generalize cur.toList.drop (o + n * sz) = C at *
      rw [hcl, hdl, e7, e5, e6]
      subst hol
      have hxs : xs = xs.take (i * sz) ++ xs.drop (i * sz) := (List.take_append_drop _ _).symm
      have t1 : (A ++ xs ++ C).take (A.length + i * sz) = A ++ xs.take (i * sz) := by
        rw [List.append_assoc, List.take_append, List.take_of_length_le (by omega), show A.length + i * sz - A.length = i * sz by omega, List.take_append_of_le_length (by omega)]
      have t2 : (A ++ xs ++ C).drop (A.length + i * sz + (n * sz - (i * sz + sz))) = xs.drop (n * sz - sz) ++ C := by
        rw [List.append_assoc, List.drop_append, List.drop_of_length_le (by omega), List.nil_append, List.drop_append_of_le_length (by omega)]
        congr 2
        omega
      rw [t1, t2]
      show ((A ++ xs.take (i * sz) ++ xs.drop (i * sz + sz) ++ (xs.drop (n * sz - sz) ++ C)).drop A.length).take (n * sz) = _
      rw [List.append_assoc, List.append_assoc, List.drop_left]
      rw [show xs.take (i * sz) ++ (xs.drop (i * sz + sz) ++ (xs.drop (n * sz - sz) ++ C)) = (xs.take (i * sz) ++ xs.drop (i * sz + sz) ++ xs.drop (n * sz - sz)) ++ C by simp]
      rw [List.take_append_of_le_length (by simp; omega), List.take_of_length_le (by simp; omega)]
end Go.Proofs.YtngbbefpphinjaaGreatDoor

/- Contract: slices.DeleteFunc at []Tie. -/
namespace Go.Proofs.YtngbbefpphinjaaGreatDoor
open Go Go.RowKit




def tieAg (_ : World) (d : Tie) (u : Value) : Prop := u = .agg #[.string d.bond, .int .i64 d.src, .int .i64 d.dst] ∧ d.ok
set_option maxHeartbeats 400000 in
theorem idx_ties (g : Nat) (caps : Array Value) (eg : ∀ args w, (callFunc g args).run Tryz.prog w = .ok (.enter g args) w) (p : Tie → Bool) (l : List (Tie)) (v : Value) (w : World) (hv : Sl tieL w v l)
    (hp : PredB Tryz.prog g caps tieAg p w) :
    Calls Tryz.prog 200 #[v, .func (.func g) #[] caps] w fun e w' => e = .returned (.int .i64 (idxI p l)) ∧ Below w.heap.size w w' := by
  obtain ⟨A, c, rfl, hlc, hcm⟩ := hv.form
  unfold maxLen at hcm
  go_enter Tryz.func200, Tryz.ntmps200
  go_wp2_with fail
  go_loopw [8] (fun i wr => ∃ k : Nat, k ≤ l.length ∧ i = .int .i64 k ∧ Below w.heap.size w wr ∧ Hid (∀ j x, j < k → l[j]? = some x → p x = false)) (fun i _ => l.length - (intOf i).toNat)
  case atStart => exact ⟨0, Nat.zero_le _, rfl, Below.refl _ _, fun j x hj => absurd hj (Nat.not_lt_zero _)⟩
  case round =>
    obtain ⟨k, hk, rfl, hb, HA⟩ := hrel
    by_cases hlt : k < l.length
    · obtain ⟨d, hd⟩ : ∃ d, l[k]? = some d := ⟨_, List.getElem?_eq_getElem hlt⟩
      obtain ⟨b, o, rfl, hsm, x0, x1, x2⟩ := tie_at (hv.below hb) hd
      have hcall := hp d _ wr hb ⟨rfl, hsm⟩
      have HD : Hid (l[k]? = some d) := hd
      clear hd hp hv
      cases hq : p d with
      | true =>
        rw [hq] at hcall
        have HQ : Hid (p d = true) := hq
        clear hq
        go_wp2_with (go_at_fn g; refine hcall.mono ?_; rintro e w' ⟨rfl, hb2⟩)
        go_ret
        exact ⟨ret_int (idxI_hit HA.out HD.out HQ.out).symm, hb.trans (hb2.mono hb.size)⟩
      | false =>
        rw [hq] at hcall
        have HQ : Hid (p d = false) := hq
        clear hq
        go_wp2_with (go_at_fn g; refine hcall.mono ?_; rintro e w' ⟨rfl, hb2⟩)
        go_roundw
        case rel => exact ⟨k + 1, by omega, by go_num, hb.trans (hb2.mono hb.size), miss_step HA.out HD.out HQ.out⟩
        case measure => simp [intOf]; omega
    · have hkl : k = l.length := by omega
      subst hkl
      clear hp hv
      go_wp2_with fail
      go_ret
      exact ⟨ret_int (idxI_miss HA.out).symm, hb⟩
theorem del_ties_info : (Tryz.prog.info? 35).map (fun i => (i.zero, i.size, i.bytes)) = some (some (.agg #[.string .empty, .int .i64 0, .int .i64 0]), 3, 32) := by kernel_rfl
set_option maxRecDepth 100000 in
set_option maxHeartbeats 4000000 in
theorem del_ties_g (g : Nat) (caps : Array Value) (eg : ∀ args w, (callFunc g args).run Tryz.prog w = .ok (.enter g args) w) (p : Tie → Bool) (l : List Tie) (v : Value) (B : Nat) (w : World) (hB : B ≤ w.heap.size)
    (hown : Own w B 35 3 v l.length (l.flatMap Tie.enc)) (hok : ∀ x ∈ l, x.ok) (hl : l.length ≤ 1000) (hp : PredG Tryz.prog g caps (fun d u => u = (.agg #[.string d.bond, .int .i64 d.src, .int .i64 d.dst]) ∧ d.ok) p v.ownBlock w) :
    Calls Tryz.prog 155 #[v, .func (.func g) #[] caps] w fun e w' => ∃ u, e = .returned u ∧ Own w' B 35 3 u (l.filter fun x => !p x).length ((l.filter fun x => !p x).flatMap Tie.enc) ∧ w.grownBy w' v.ownBlock ∧ u.ownBlock = v.ownBlock := by
  obtain ⟨i0, ei, ez, ez1, ez2⟩ := info_parts del_ties_info
  have hidx := idx_ties g caps eg p l _ w (hown.ties hok) (fun x u wx hb hu => hp x u wx (grownBy_below hb _) hu)
  rcases idxI_cases p l with ⟨h1, h2⟩ | ⟨k0, d0, h1, h2, h3⟩
  · rw [h1] at hidx
    obtain ⟨A, c, rfl, hlc, hcm⟩ := hown.form
    have H2 := Lib.hid h2
    have HO := Lib.hid hown
    clear h1 h2 hown hp hok
    go_enter Tryz.func155, Tryz.ntmps155
    go_wp2_with (go_at_call 200; refine hidx.mono ?_; rintro e w1 ⟨rfl, hb1⟩)
    go_ret
    exact ⟨_, rfl, by rw [H2.out]; exact HO.out.below hb1, grownBy_below hb1 _, rfl⟩
  · rw [h1] at hidx
    obtain ⟨g0, o0, c, rfl, hBg, hgl⟩ := hown.addr (len_pos h2)
    obtain ⟨_, c', hv, hlc, hcm⟩ := hown.form
    injection hv with hvA hvL hvC
    subst hvC; subst hvA
    clear hvL
    unfold maxLen at hcm
    have HK0 := Lib.hid h3
    have hk0l := (List.getElem?_eq_some_iff.1 h2).1
    have HP := Lib.hid hp
    have HOK := Lib.hid hok
    have HO := Lib.hid hown
    have hkl : (k0 : Int) + 1 ≤ (l.length : Int) := by omega
    have hl2 : (l.length : Int) ≤ 1000 := by omega
    have hne : ((k0 : Int) == -1) = false := beq_eq_false_iff_ne.2 (by omega)
    have hown' : Own w B 35 3 (.slice (some ⟨g0, o0, none⟩) l.length c) l.length (l.flatMap Tie.enc) := hown
    clear h1 h2 h3 hown hp hok
    go_enter Tryz.func155, Tryz.ntmps155
    go_wp2_with (go_at_call 200; refine hidx.mono ?_; rintro e w1 ⟨rfl, hb1⟩)
    have ho1 := hown'.below hb1
    have hgb1 : w.grownBy w1 (some g0) := grownBy_below hb1 _
    clear hidx hown'
    go_loopw [5, 6] (fun i j wr => ∃ (a b : Nat) (dk : List Tie), i = .int .i64 a ∧ j = .int .i64 b ∧ a < b ∧ b ≤ l.length ∧ Own wr B 35 3 (.slice (some ⟨g0, o0, none⟩) l.length c) l.length (dk.flatMap Tie.enc) ∧ w.grownBy wr (some g0) ∧ Hid (Kept p l dk b a)) (fun _ j _ => l.length - (intOf j).toNat)
    case atStart => exact ⟨k0, k0 + 1, l, rfl, by go_num, by omega, by omega, ho1, hgb1, HK0.out⟩
    case round =>
      clear ho1 hgb1
      obtain ⟨a, b, dk, rfl, rfl, hab, hbl, hO, hgr, HK⟩ := hrel
      have hdl := HK.out.len
      have hal : (a : Int) < (l.length : Int) := by omega
      have hgrs := hgr.size
      by_cases hlt : b < l.length
      · obtain ⟨d, hd⟩ : ∃ d, l[b]? = some d := ⟨_, List.getElem?_eq_getElem hlt⟩
        obtain ⟨q, hq⟩ : ∃ q, dk[a]? = some q := ⟨_, List.getElem?_eq_getElem (by omega)⟩
        have hdk : dk[b]? = some d := (HK.out.at hlt).trans hd
        have hlt' : (b : Int) < (l.length : Int) := by omega
        have x0 : wr.cell? ⟨g0, o0 + b * 3, none⟩ = some (.string d.bond) := hO.cell (j := b * 3 + 0) rfl (flat_get (j := 0) Tie.enc_len hdk rfl)
        have x1 : wr.cell? ⟨g0, o0 + b * 3 + 1, none⟩ = some (.int .i64 d.src) := hO.cell (j := b * 3 + 1) rfl (flat_get (j := 1) Tie.enc_len hdk rfl)
        have x2 : wr.cell? ⟨g0, o0 + b * 3 + 2, none⟩ = some (.int .i64 d.dst) := hO.cell (j := b * 3 + 2) rfl (flat_get (j := 2) Tie.enc_len hdk rfl)
        obtain ⟨z0, z1, z2⟩ := cell_box3 wr (.string d.bond) (.int .i64 d.src) (.int .i64 d.dst) 35
        have hbx : Below wr.heap.size wr (wr.alloc (.cells #[.string d.bond, .int .i64 d.src, .int .i64 d.dst] 35)) := (Below.refl _ _).alloc (Nat.le_refl _) _
        have hOx := hO.below hbx
        have hgx : w.grownBy (wr.alloc (.cells #[.string d.bond, .int .i64 d.src, .int .i64 d.dst] 35)) (some g0) := hgr.trans (grownBy_below hbx _)
        have hcall := HP.out d (.agg #[.string d.bond, .int .i64 d.src, .int .i64 d.dst]) (wr.alloc (.cells #[.string d.bond, .int .i64 d.src, .int .i64 d.dst] 35)) hgx ⟨rfl, HOK.out d (List.mem_of_getElem? hd)⟩
        have HD := Lib.hid hd
        clear hd hdk hO hgr
        cases hpd : p d with
        | true =>
          rw [hpd] at hcall
          have HN := Lib.hid (HK.out.skip HD.out hpd)
          clear hpd hq
          go_wp2_with (go_at_fn g; refine hcall.mono ?_; rintro e w2 ⟨rfl, hb2⟩)
          have hO2 := hOx.below hb2
          have hg2 := hgx.trans (grownBy_below hb2 (some g0))
          clear hcall hb2 hOx hgx x0 x1 x2 z0 z1 z2
          go_roundw
          case rel => exact ⟨a, b + 1, dk, rfl, by go_num, by omega, by omega, hO2, hg2, HN⟩
          case measure => simp [intOf]; omega
        | false =>
          rw [hpd] at hcall
          have HN := Lib.hid (HK.out.keep HD.out hpd)
          clear hpd
          go_wp2_with (
            (go_at_fn g
             refine hcall.mono ?_
             rintro e w2 ⟨rfl, hb2⟩
             have hO2 := hOx.below hb2
             have hg2 := hgx.trans (grownBy_below hb2 (some g0))
             clear hOx hgx
             have y0 : w2.cell? ⟨g0, o0 + a * 3, none⟩ = some (.string q.bond) := hO2.cell (j := a * 3 + 0) rfl (flat_get (j := 0) Tie.enc_len hq rfl)
             have y1 : w2.cell? ⟨g0, o0 + a * 3 + 1, none⟩ = some (.int .i64 q.src) := hO2.cell (j := a * 3 + 1) rfl (flat_get (j := 1) Tie.enc_len hq rfl)
             have y2 : w2.cell? ⟨g0, o0 + a * 3 + 2, none⟩ = some (.int .i64 q.dst) := hO2.cell (j := a * 3 + 2) rfl (flat_get (j := 2) Tie.enc_len hq rfl)
             have f0 : w2.frozen? ⟨g0, o0 + a * 3, none⟩ = false := hO2.frozen rfl _
             have f1 : w2.frozen? ⟨g0, o0 + a * 3 + 1, none⟩ = false := hO2.frozen rfl _
             have f2 : w2.frozen? ⟨g0, o0 + a * 3 + 2, none⟩ = false := hO2.frozen rfl _
             have b0 := cell_below hb2 z0
             have b1 := cell_below hb2 z1
             have b2 := cell_below hb2 z2
             have ho3 := (((hO2.store (a * 3) (by omega) (.string d.bond)).store (a * 3 + 1) (by omega) (.int .i64 d.src)).store (a * 3 + 2) (by omega) (.int .i64 d.dst))
             have HO3 : Hid (Own (((w2.setCell ⟨g0, o0 + a * 3, none⟩ (.string d.bond)).setCell ⟨g0, o0 + a * 3 + 1, none⟩ (.int .i64 d.src)).setCell ⟨g0, o0 + a * 3 + 2, none⟩ (.int .i64 d.dst)) B 35 3 (.slice (some ⟨g0, o0, none⟩) l.length c) l.length ((dk.set a d).flatMap Tie.enc)) := by
               rw [← flat_set Tie.enc_len dk a d (by omega)]; exact ho3
             have HG3 : Hid (w.grownBy (((w2.setCell ⟨g0, o0 + a * 3, none⟩ (.string d.bond)).setCell ⟨g0, o0 + a * 3 + 1, none⟩ (.int .i64 d.src)).setCell ⟨g0, o0 + a * 3 + 2, none⟩ (.int .i64 d.dst)) (some g0)) := (((hg2.trans (grownBy_setCell_q _ ⟨g0, o0 + a * 3, none⟩ _)).trans (grownBy_setCell_q _ ⟨g0, o0 + a * 3 + 1, none⟩ _)).trans (grownBy_setCell_q _ ⟨g0, o0 + a * 3 + 2, none⟩ _))
             clear ho3 hO2 hg2 z0 z1 z2
             skip)
            )
          go_roundw
          case rel => exact ⟨a + 1, b + 1, dk.set a d, by go_num, by go_num, by omega, by omega, HO3.out, HG3.out, HN⟩
          case measure => simp [intOf]; omega
      · obtain rfl : b = l.length := by omega
        obtain ⟨hd1, hd2⟩ := HK.out.done
        obtain ⟨w9, hr9, ho9, hg9⟩ := hO.clear (P := Tryz.prog) 23 i0 (.agg #[.string .empty, .int .i64 0, .int .i64 0]) 3 Tryz.underlying23 ei ez rfl (by kernel_rfl) (by decide) (show a < l.length by omega)
        have HG9 := Lib.hid (hgr.trans hg9)
        have HO9 : Hid (Own w9 B 35 3 (.slice (some ⟨g0, o0, none⟩) a c) (l.filter fun x => !p x).length ((l.filter fun x => !p x).flatMap Tie.enc)) := by
          unfold Hid
          rw [hd2, ← hd1, ← flat_take Tie.enc_len dk a (by omega)]
          exact ho9
        have hca : ¬ c = a := by omega
        have hac : (a : Int) ≤ (c : Int) := by omega
        clear hd1 hd2 ho9 hg9 hO hgr
        go_wp2_with (at_builtin; refine wpList_clear_q _ rfl (.tmp 38) _ rfl _ rfl (hr9 _ _) ?_)
        go_ret
        exact ⟨_, rfl, HO9.out, HG9.out, rfl⟩
end Go.Proofs.YtngbbefpphinjaaGreatDoor

/- Contracts: slices.Clone at nodes and at ties, graph.OwnNode, graph.Own. -/
namespace Go.Proofs.YtngbbefpphinjaaGreatDoor
open Go Go.RowKit



theorem clone_nods_info : (Tryz.prog.info? 29).map (fun i => (i.zero, i.size, i.bytes)) = some (some (.agg #[.int .i64 0, .string .empty, .slice none 0 0]), 3, 48) := by kernel_rfl
set_option maxHeartbeats 2000000 in
theorem clone_nods {w : World} {A : Option Addr} {n c : Nat} {xs : List Value} (hlen : xs.length = n * 3) (h1 : ∀ u ∈ xs, u.oneCell' = true) (hx : 0 < n → ∃ b o, A = some ⟨b, o, none⟩ ∧ ∀ j u, xs[j]? = some u → w.cell? ⟨b, o + j, none⟩ = some u) (hl : n ≤ 1048576) :
    Calls Tryz.prog 109 #[.slice A n c] w fun e w' => ∃ u, e = .returned u ∧ Own w' w.heap.size 29 3 u n xs ∧ Below w.heap.size w w' := by
  obtain ⟨i0, ei, ez, ez1, ez2⟩ := info_parts clone_nods_info
  have q22 : ∀ (w : World) (a : Option Addr) (n c n' c' : Nat), (binOp .eql 22 (.slice a n c) (.slice none n' c')).run Tryz.prog w = .ok (.bool a.isNone) w := fun w a n c n' c' => Lib.run_eql_slice_nil w _ _ a n c n' c' Tryz.underlying22
  cases A with
  | none =>
    have h0 : n = 0 := by
      rcases Nat.eq_zero_or_pos n with h | h
      · exact h
      · obtain ⟨_, _, hA, _⟩ := hx h; cases hA
    subst h0
    have hx0 : xs = [] := List.eq_nil_of_length_eq_zero (by rw [hlen, Nat.zero_mul])
    subst hx0
    clear hx hlen h1
    go_enter Tryz.func109, Tryz.ntmps109
    go_wp2_with fail
    go_ret
    exact ⟨_, rfl, Own.nil _ _ _ _, Below.refl _ _⟩
  | some a =>
    have hX : Hid (0 < n → ∃ b o, (some a : Option Addr) = some ⟨b, o, none⟩ ∧ ∀ j u, xs[j]? = some u → w.cell? ⟨b, o + j, none⟩ = some u) := hx
    have hL := Lib.hid hlen
    have h1H := Lib.hid h1
    clear hx hlen h1
    go_enter Tryz.func109, Tryz.ntmps109
    go_wp2_with (at_builtin; refine wpList_append_q _ rfl (.tmp 5) (.tmp 6) 22 rfl w.heap.size 29 i0 (.agg #[.int .i64 0, .string .empty, .slice none 0 0]) 3 48 Tryz.underlying22 ei ez ez1 ez2 rfl (by decide) (.slice (some ⟨w.heap.size, 0, none⟩) 0 0) 0 [] rfl Own.made (some a) n c xs rfl hL.out (fun hp => by
        obtain ⟨b, o, hA, hy⟩ := hX.out hp
        exact ⟨_, hA, fun j u hj => by rw [addr_add]; exact cell_below ((Below.refl _ _).alloc (Nat.le_refl _) _) (hy j u hj)⟩) h1H.out (by unfold maxLen; omega) (by omega) (by simp) ?_; intro v7 w7 hown7 hg7 hat7)
    have hb7 : Below w.heap.size w w7 := ((Below.refl _ _).alloc (Nat.le_refl _) _).grown hg7 (by simp) (fun k hk => Nat.le_of_eq (by simpa [Value.ownBlock] using hk))
    simp only [Nat.zero_add, List.nil_append] at hown7
    clear hg7 hat7
    go_ret
    exact ⟨_, rfl, hown7, hb7⟩
theorem clone_ties_info : (Tryz.prog.info? 35).map (fun i => (i.zero, i.size, i.bytes)) = some (some (.agg #[.string .empty, .int .i64 0, .int .i64 0]), 3, 32) := by kernel_rfl
set_option maxHeartbeats 2000000 in
theorem clone_ties {w : World} {v : Value} {l : List Tie} (hv : Sl tieL w v l) (hl : l.length ≤ 1048576) : Calls Tryz.prog 108 #[v] w (CloneR tieL 35 l w) := by
  obtain ⟨i0, ei, ez, ez1, ez2⟩ := info_parts clone_ties_info
  obtain ⟨A, c, rfl, _, _⟩ := hv.form
  obtain ⟨xs, hr, hx⟩ := Row.of_sl hv
  have hlen := hr.len
  have h1 := hr.oneCell one_tie
  have q22 : ∀ (w : World) (a : Option Addr) (n c n' c' : Nat), (binOp .eql 23 (.slice a n c) (.slice none n' c')).run Tryz.prog w = .ok (.bool a.isNone) w := fun w a n c n' c' => Lib.run_eql_slice_nil w _ _ a n c n' c' Tryz.underlying23
  cases A with
  | none =>
    have h0 : l = [] := by
      rcases Nat.eq_zero_or_pos l.length with h | h
      · exact List.eq_nil_of_length_eq_zero h
      · obtain ⟨_, _, hA, _⟩ := hx h; cases hA
    subst h0
    clear hv hr hx hlen h1
    go_enter Tryz.func108, Tryz.ntmps108
    go_wp2_with fail
    go_ret
    exact ⟨_, [], rfl, Own.nil _ _ _ _, rfl, Below.refl _ _⟩
  | some a =>
    have hX : Hid (0 < l.length → ∃ b o, (some a : Option Addr) = some ⟨b, o, none⟩ ∧ ∀ j u, xs[j]? = some u → w.cell? ⟨b, o + j, none⟩ = some u) := hx
    have hR := Lib.hid hr
    have hL := Lib.hid hlen
    have h1H := Lib.hid h1
    clear hv hr hx hlen h1
    go_enter Tryz.func108, Tryz.ntmps108
    go_wp2_with (at_builtin; refine wpList_append_q _ rfl (.tmp 5) (.tmp 6) 23 rfl w.heap.size 35 i0 (.agg #[.string .empty, .int .i64 0, .int .i64 0]) 3 32 Tryz.underlying23 ei ez ez1 ez2 rfl (by decide) (.slice (some ⟨w.heap.size, 0, none⟩) 0 0) 0 [] rfl Own.made (some a) l.length c xs rfl hL.out (fun hp => by
        obtain ⟨b, o, hA, hy⟩ := hX.out hp
        exact ⟨_, hA, fun j u hj => by rw [addr_add]; exact cell_below ((Below.refl _ _).alloc (Nat.le_refl _) _) (hy j u hj)⟩) h1H.out (by unfold maxLen; omega) (by omega) (by simp) ?_; intro v7 w7 hown7 hg7 hat7)
    have hb7 : Below w.heap.size w w7 := ((Below.refl _ _).alloc (Nat.le_refl _) _).grown hg7 (by simp) (fun k hk => Nat.le_of_eq (by simpa [Value.ownBlock] using hk))
    simp only [Nat.zero_add, List.nil_append] at hown7
    clear hg7 hat7
    go_ret
    exact ⟨_, xs, rfl, hown7, hR.out, hb7⟩
set_option maxHeartbeats 1000000 in
theorem ownNode_any (n : Nod) (v : Value) (w : World) (hv : Sl prpL w v n.props) (hl : n.props.length ≤ 1048576) :
    Calls Tryz.prog 110 #[.agg #[.int .i64 n.id, .string n.kind, v]] w fun e w' => ∃ u, e = .returned (.agg #[.int .i64 n.id, .string n.kind, u]) ∧ OwnP w' w.heap.size u n.props ∧ Below w.heap.size w w' := by
  have hb0 : Below w.heap.size w ((w.alloc (.cells #[.int .i64 n.id, .string n.kind, v] 29)).alloc (.cells #[.int .i64 0, .string .empty, .slice none 0 0] 29)) := ((Below.refl _ _).alloc (Nat.le_refl _) _).alloc (by simp) _
  have hcl := clone_prps (hv.below hb0) hl
  have g0 : ((w.alloc (.cells #[.int .i64 n.id, .string n.kind, v] 29)).alloc (.cells #[.int .i64 0, .string .empty, .slice none 0 0] 29)).heap[w.heap.size]? = some (.cells #[.int .i64 n.id, .string n.kind, v] 29 (0, 0)) := by
    rw [Below.heap_alloc _ _ _ (by simp)]; exact heap_alloc_new _ _
  have g1 : ((w.alloc (.cells #[.int .i64 n.id, .string n.kind, v] 29)).alloc (.cells #[.int .i64 0, .string .empty, .slice none 0 0] 29)).heap[w.heap.size + 1]? = some (.cells #[.int .i64 0, .string .empty, .slice none 0 0] 29 (0, 0)) := by
    have := heap_alloc_new (w.alloc (.cells #[.int .i64 n.id, .string n.kind, v] 29)) (.cells #[.int .i64 0, .string .empty, .slice none 0 0] 29); simpa using this
  have x0 := block_cell g0 0
  have x1 := block_cell g0 1
  have x2 := block_cell g0 2
  have hsz : ((w.alloc (.cells #[.int .i64 n.id, .string n.kind, v] 29)).alloc (.cells #[.int .i64 0, .string .empty, .slice none 0 0] 29)).heap.size = w.heap.size + 2 := by simp
  obtain ⟨A, c, rfl, _, _⟩ := hv.form
  clear hv
  go_enter Tryz.func110, Tryz.ntmps110
  go_wp2_with fail
  refine hcl.mono ?_
  clear hcl
  rintro e w2 ⟨u, xs, rfl, hown, hrow, hb2⟩
  obtain ⟨rfl, hok⟩ := Row.flat hrow
  have hown := Own.mono (B' := w.heap.size) hown (by rw [hsz]; omega)
  have HK := Lib.hid hok
  have g2 := (hb2.block _ (Array.getElem?_eq_some_iff.1 g0).1).trans g0
  have g3 := (hb2.block _ (Array.getElem?_eq_some_iff.1 g1).1).trans g1
  have y0 := block_cell g2 0
  have y1 := block_cell g2 1
  have y2 := block_cell g2 2
  have y3 := block_cell g3 0
  have y4 := block_cell g3 1
  have y5 := block_cell g3 2
  have f2 := block_free g2 2
  have f3 := block_free g3 0
  have f4 := block_free g3 1
  have f5 := block_free g3 2
  have hB2 := hb0.trans (hb2.mono hb0.size)
  have HO : Hid (∀ W, Same 33 w2 W → OwnP W w.heap.size u n.props) := fun W hs => ⟨Own.same hown hs, HK.out⟩
  obtain ⟨A2, c2, rfl, _, _⟩ := hown.form
  have hsame : ∀ W : World, W = ((((w2.setCell ⟨w.heap.size, 2, none⟩ (.slice A2 n.props.length c2)).setCell ⟨w.heap.size + 1, 0, none⟩ (.int .i64 n.id)).setCell ⟨w.heap.size + 1, 1, none⟩ (.string n.kind)).setCell ⟨w.heap.size + 1, 2, none⟩ (.slice A2 n.props.length c2)) → Same 33 w2 W := by
    rintro W rfl
    have k0 := setCell_block g2 2 (.slice A2 n.props.length c2)
    have s0 := Same.setCell (T := 33) (p := ⟨w.heap.size, 2, none⟩) g2 (by decide) (.slice A2 n.props.length c2)
    have k1 : (w2.setCell ⟨w.heap.size, 2, none⟩ (.slice A2 n.props.length c2)).heap[w.heap.size + 1]? = some (.cells #[.int .i64 0, .string .empty, .slice none 0 0] 29 (0, 0)) := by rw [Below.heap_setCell _ _ _ _ (by simp)]; exact g3
    have s1 := Same.setCell (T := 33) (p := ⟨w.heap.size + 1, 0, none⟩) k1 (by decide) (.int .i64 n.id)
    have k2 := setCell_block k1 0 (.int .i64 n.id)
    have s2 := Same.setCell (T := 33) (p := ⟨w.heap.size + 1, 1, none⟩) k2 (by decide) (.string n.kind)
    have k3 := setCell_block k2 1 (.string n.kind)
    have s3 := Same.setCell (T := 33) (p := ⟨w.heap.size + 1, 2, none⟩) k3 (by decide) (.slice A2 n.props.length c2)
    exact s0.trans (s1.trans (s2.trans s3))
  have HS := Lib.hid hsame
  have G3 := Lib.hid g3
  clear hown hrow hok g0 g1 g2 g3 x0 x1 x2 hsame
  go_wp2_with fail
  have h3 : ((((w2.setCell ⟨w.heap.size, 2, none⟩ (.slice A2 n.props.length c2)).setCell ⟨w.heap.size + 1, 0, none⟩ (.int .i64 n.id)).setCell ⟨w.heap.size + 1, 1, none⟩ (.string n.kind)).setCell ⟨w.heap.size + 1, 2, none⟩ (.slice A2 n.props.length c2)).heap[w.heap.size + 1]? = some (.cells #[.int .i64 n.id, .string n.kind, .slice A2 n.props.length c2] 29 (0, 0)) := by
    have k1 : (w2.setCell ⟨w.heap.size, 2, none⟩ (.slice A2 n.props.length c2)).heap[w.heap.size + 1]? = some (.cells #[.int .i64 0, .string .empty, .slice none 0 0] 29 (0, 0)) := by rw [Below.heap_setCell _ _ _ _ (by simp)]; exact G3.out
    exact setCell_block (setCell_block (setCell_block k1 0 (.int .i64 n.id)) 1 (.string n.kind)) 2 (.slice A2 n.props.length c2)
  have k2 := block_cell h3 0
  have k3 := block_cell h3 1
  have k4 := block_cell h3 2
  exact bodyPost_ret (v := .agg #[.int .i64 n.id, .string n.kind, .slice A2 n.props.length c2]) (by simp [results, Tryz.results110, go_sem, k2, k3, k4]) rfl ⟨_, rfl, HO.out _ (HS.out _ rfl), (((hB2.setCell (p := ⟨w.heap.size, 2, none⟩) (Nat.le_refl _) _).setCell (p := ⟨w.heap.size + 1, 0, none⟩) (by show w.heap.size ≤ w.heap.size + 1; omega) _).setCell (p := ⟨w.heap.size + 1, 1, none⟩) (by show w.heap.size ≤ w.heap.size + 1; omega) _).setCell (p := ⟨w.heap.size + 1, 2, none⟩) (by show w.heap.size ≤ w.heap.size + 1; omega) _⟩
end Go.Proofs.YtngbbefpphinjaaGreatDoor
