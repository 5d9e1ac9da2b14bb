/- Parts: Qt, GrA, GrB, FindA. -/
import Derived.StillTail
import Derived.BigQuiet
import Derived.Lib.QuietBelow
import Derived.Test.YtngbbefpphinjaaGreatDoorMg01
import Derived.Lib.Bytealg
import Derived.StillTailTactics
import Derived.Sort.Walk0
/- A region that draws its order: all operations but the last few only read (in whatever world of a class), the last few stand in one order: one walk in the order of the text serves every order. Conditions: the two Bools on the region. -/
namespace Go.Proofs.YtngbbefpphinjaaGreatDoor
open Go Go.RowKit Go.Sort
section
variable {P : Program} {ops : Array Oper} {md : Region.Mode} {C : World → Prop}

def wpAnyLQ (P : Program) (md : Region.Mode) (ops : Array Oper) (C : World → Prop) (n : Nat) (L : Array Bool → Act → Prop) : Nat → Array Bool → Act → Prop
  | 0, listed, a => L listed a
  | f + 1, listed, a =>
    Region.ready md ops listed ≠ [] ∧ ∀ i ∈ Region.ready md ops listed, i < n ∧ qOp P ops C i (wpAnyLQ P md ops C n L f (listed.setIfInBounds i true)) a

theorem wpAny_of_headQ {n g : Nat} {L : Array Bool → Act → Prop} {Q' : Exit → Act → World → Prop} (hL : ∀ listed a w, C w → L listed a → wpAny P md ops Q' g listed a w) :
    ∀ (f : Nat) (listed : Array Bool) (a : Act) (w : World), C w → wpAnyLQ P md ops C n L f listed a → wpAny P md ops Q' (f + g) listed a w
  | 0, listed, a, w, hw, h => by rw [Nat.zero_add]; exact hL _ _ _ hw h
  | f + 1, listed, a, w, hw, h => by
    rw [show f + 1 + g = (f + g) + 1 by omega]
    exact ⟨fun h0 => absurd h0 h.1, fun i hi => wpOp_of_qOp hw (fun a' w' hw' h' => wpAny_of_headQ hL f _ a' w' hw' h') (h.2 i hi).2⟩

theorem wpAnyLQ_first {n i : Nat} {oi : Oper} {v : Value} {L : Array Bool → Act → Prop} (hi : ops[i]? = some oi) (hsel : ∀ (j : Nat) (o : Oper) cs b, ops[j]? = some o → o.op ≠ .select cs b)
    (hs : Region.sinkB md ops n = true) (hc : Region.chainB md ops n = true) (hn : n < ops.size) (hin : i < n)
    (hdone : ∀ listed a, L listed a → ∀ j ∈ Region.ready md ops listed, n ≤ j) :
    ∀ (f : Nat) (listed : Array Bool) (a : Act), HeadInv md ops n listed →
      (∀ j oj, ops[j]? = some oj → j ≠ i → listed.getD j true = false → (∀ e ∈ oj.after, Region.binds md e = true → e.on ≠ i) → oi.apart ops oj = true) →
      i ∈ Region.ready md ops listed → YieldsIn P ops C oi v a →
      wpAnyLQ P md ops C n L f (listed.setIfInBounds i true) (a.put oi.dst v) → wpAnyLQ P md ops C n L (f + 1) listed a := by
  intro f
  induction f with
  | zero =>
    intro listed a inv _ hr hy H
    have hun := (mem_ready.1 hr).1
    refine ⟨fun h => (by rw [h] at hr; cases hr), fun j hj => ?_⟩
    have hjn : j < n := by
      rcases Nat.lt_or_ge j n with h | h
      · exact h
      · exact absurd hj (tail_waits hs hc hn inv _ i rfl hin hun j h)
    refine ⟨hjn, ?_⟩
    by_cases hji : j = i
    · subst hji; exact hy.qOp hi H
    · have := hdone _ _ H j (ready_mono hj hji)
      omega
  | succ f ih =>
    intro listed a inv hfree hr hy H
    have hun := (mem_ready.1 hr).1
    refine ⟨fun h => (by rw [h] at hr; cases hr), fun j hj => ?_⟩
    have hjn : j < n := by
      rcases Nat.lt_or_ge j n with h | h
      · exact h
      · exact absurd hj (tail_waits hs hc hn inv _ i rfl hin hun j h)
    refine ⟨hjn, ?_⟩
    by_cases hji : j = i
    · subst hji; exact hy.qOp hi H
    · have h1 := (H.2 j (ready_mono hj hji)).2
      obtain ⟨hjun, oj, hoj, hall⟩ := mem_ready.1 hj
      have hnot : ∀ e ∈ oj.after, Region.binds md e = true → e.on ≠ i := fun e he hb heq => by
        have h1 := hall e he hb
        rw [heq, getD_both hun] at h1
        cases h1
      have h2 := qOp_put hoj (hfree j oj hoj hji hjun hnot) (fun cs b => hsel i oi cs b hi) (fun cs b => hsel j oj cs b hoj) hy h1
      have hfree' : ∀ k ok, ops[k]? = some ok → k ≠ i → (listed.setIfInBounds j true).getD k true = false →
          (∀ e ∈ ok.after, Region.binds md e = true → e.on ≠ i) → oi.apart ops ok = true := fun k ok hk hki hun hno => by
        refine hfree k ok hk hki ?_ hno
        by_cases hjk : j = k
        · subst hjk; exact hjun
        · rw [getD_set_ne true hjk] at hun; exact hun
      refine qOp_mono (fun a' h3 => ih (listed.setIfInBounds j true) a' (inv.set hj hjn) hfree' (ready_mono hr (Ne.symm hji)) h3.1 ?_) h2
      rw [Array.setIfInBounds_comm _ _ hji]
      exact h3.2

theorem wpAnyLQ_lex {n g : Nat} {Lq : Act → Prop} (hsel : Region.noSelect ops = true) (hs : Region.sinkB md ops n = true) (hc : Region.chainB md ops n = true) (hn : n < ops.size) :
    ∀ (l : List Oper) (k : Nat) (listed : Array Bool) (a : Act), (∀ j, j < l.length → l[j]? = ops[k + j]?) → k + l.length = n → HeadInv md ops n listed →
    Region.lexHead md ops g l.length k listed = true → wpQuiet P ops C Lq l a →
    wpAnyLQ P md ops C n (fun listed' a' => Region.seqB md ops g n listed' = true ∧ Lq a') l.length listed a
  | [], k, listed, a, _, hk, _, hB, h => by
    have : k = n := by simpa using hk
    subst this
    exact ⟨by simpa [Region.lexHead] using hB, h⟩
  | o :: l, k, listed, a, hl, hk, inv, hB, h => by
    have h0 : ops[k]? = some o := by simpa using (hl 0 (by simp)).symm
    simp only [List.length_cons, Region.lexHead, Bool.and_eq_true] at hB
    obtain ⟨⟨hr, hf⟩, hB'⟩ := hB
    have hkn : k < n := by simp only [List.length_cons] at hk; omega
    have hr' : k ∈ Region.ready md ops listed := by simpa using hr
    have hst : qOp P ops C k (wpQuiet P ops C Lq l) a := by unfold qOp; simp only [h0]; exact h
    obtain ⟨v, hy, hK⟩ := yieldsIn_of_qOp h0 hst
    exact wpAnyLQ_first h0 (Region.noSelect_spec hsel) hs hc hn hkn (fun listed' a' hL => seqB_ready hL.1) l.length listed a inv (Region.free_spec h0 hf) hr' hy
      (wpAnyLQ_lex hsel hs hc hn l (k + 1) _ _ (fun j hj => by have := hl (j + 1) (by simp; omega); simpa [Nat.add_assoc, Nat.add_comm 1 j] using this) (by simp only [List.length_cons] at hk; omega) (inv.set hr' hkn) hB' hK)

theorem wp_region_quiet_tail {id : Nat} {Q : Exit → Act → World → Prop} {a : Act} {w : World} {l : List Oper} (n : Nat) (hm : P.follows .mixedOrders = true) (hB : Region.lexTailB .any l.toArray n = true)
    (hC : C { w with drawn := w.drawn + 1 })
    (h : wpQuiet P l.toArray C (fun a' => ∀ w', C w' → wpList P l.toArray Q (l.drop n) a' w') (l.take n) a) : (Code.region id l.toArray true).wp P Q a w := by
  simp only [Region.lexTailB, Bool.and_eq_true, decide_eq_true_eq] at hB
  obtain ⟨⟨⟨⟨hsel, hn⟩, hs⟩, hc⟩, hlex⟩ := hB
  have hn' : n < l.length := by simpa using hn
  have htl : (l.take n).length = n := by simp; omega
  have hdl : (l.drop n).length = l.toArray.size - n := by simp
  have inv0 : HeadInv .any l.toArray n (Array.replicate l.toArray.size false) :=
    ⟨by simp, fun j oj _ hl => (by rw [getD_replicate_false] at hl; cases hl), fun t _ ht => getD_in (by simpa using ht) (getD_replicate_false _ _)⟩
  have H := wpAnyLQ_lex (C := C) (md := .any) (g := l.toArray.size - n) hsel hs hc hn (l.take n) 0 _ a (fun j hj => by
    have hj' : j < n := by rw [htl] at hj; exact hj
    simp [hj']) (by simpa using htl) inv0 (by rw [htl]; exact hlex) h
  refine wp_region_any hm ?_
  have := wpAny_of_headQ (C := C) (Q' := Q) (g := l.toArray.size - n) (fun listed a' w' hw' hL => by
    have := wpAny_of_seq (md := .any) (Q' := Q) (l.drop n) n listed a' w' (fun j => by simp [List.getElem?_drop]) (by rw [hdl]; exact hL.1) (hL.2 w' hw')
    rwa [hdl] at this) _ _ _ _ hC H
  rw [htl, show n + (l.toArray.size - n) = l.toArray.size by omega] at this
  exact this

/-- At the class 'w after some draws'. -/
theorem wp_quiet_tail {id : Nat} {Q : Exit → Act → World → Prop} {a : Act} {w : World} {l : List Oper} (n : Nat) (hm : P.follows .mixedOrders = true) (hB : Region.lexTailB .any l.toArray n = true)
    (h : wpQuiet P l.toArray (fun w' => ∃ n, w' = w.drewN n) (fun a' => ∀ w', (∃ n, w' = w.drewN n) → wpList P l.toArray Q (l.drop n) a' w') (l.take n) a) : (Code.region id l.toArray true).wp P Q a w :=
  wp_region_quiet_tail (C := fun w' => ∃ n, w' = w.drewN n) n hm hB ⟨1, rfl⟩ h
end
end Go.Proofs.YtngbbefpphinjaaGreatDoor

/- Contracts: what cmp.Compare, cmp.Or, strings.Compare, graph.Id, graph.OfNode, graph.OfTie and graph.Order answer. -/
namespace Go.Proofs.YtngbbefpphinjaaGreatDoor
open Go.RowKit

set_option maxHeartbeats 400000 in
theorem id_any (n : Int) (w : World) :
    Calls Tryz.prog 96 #[.int .i64 n] w fun e w' => e = .returned (.bool (decide (1 ≤ n) && decide (n ≤ 1000))) ∧ w = w' := by
  by_cases h1 : 1 ≤ n
  · go_enter Tryz.func96, Tryz.ntmps96
    go_wp2
    go_ret
    exact ⟨by simp [h1], rfl⟩
  · have h1' : decide (1 ≤ n) = false := by simpa using h1
    go_enter Tryz.func96, Tryz.ntmps96
    go_wp2
    go_ret
    exact ⟨by simp, rfl⟩
def idB (n : Int) : Bool := decide (1 ≤ n) && decide (n ≤ 1000)
theorem id_b (n : Int) (w : World) : Calls Tryz.prog 96 #[.int .i64 n] w fun e w' => e = .returned (.bool (idB n)) ∧ w = w' := id_any n w

theorem nan_any (n : Int) (w : World) :
    Calls Tryz.prog 193 #[.int .i64 n] w fun e w' => e = .returned (.bool false) ∧ w = w' := by
  go_enter Tryz.func193, Tryz.ntmps193
  go_wp2
  go_ret
  exact ⟨by simp, rfl⟩
def cmpI (a b : Int) : Int := if a < b then -1 else if b < a then 1 else 0
theorem cmp_any (a b : Int) (w : World) :
    Calls Tryz.prog 144 #[.int .i64 a, .int .i64 b] w fun e w' => e = .returned (.int .i64 (cmpI a b)) ∧ w = w' := by
  by_cases h1 : a < b
  · have HE : Hid (cmpI a b = -1) := by unfold cmpI; rw [if_pos h1]; rfl
    go_enter Tryz.func144, Tryz.ntmps144
    go_wp2_with (go_at_call 193; refine (nan_any _ _).mono ?_; rintro e w' ⟨rfl, rfl⟩)
    go_ret
    exact ⟨by rw [HE.out]; rfl, rfl⟩
  · by_cases h2 : b < a
    · have HE : Hid (cmpI a b = 1) := by unfold cmpI; rw [if_neg h1, if_pos h2]; rfl
      have h1' : b ≤ a := by omega
      go_enter Tryz.func144, Tryz.ntmps144
      go_wp2_with (go_at_call 193; refine (nan_any _ _).mono ?_; rintro e w' ⟨rfl, rfl⟩)
      go_ret
      exact ⟨by rw [HE.out]; rfl, rfl⟩
    · have HE : Hid (cmpI a b = 0) := by unfold cmpI; rw [if_neg h1, if_neg h2]; rfl
      have h1' : b ≤ a := by omega
      have h2' : a ≤ b := by omega
      go_enter Tryz.func144, Tryz.ntmps144
      go_wp2_with (go_at_call 193; refine (nan_any _ _).mono ?_; rintro e w' ⟨rfl, rfl⟩)
      go_ret
      exact ⟨by rw [HE.out]; rfl, rfl⟩

/-- Texts by bytes: -1, 0, 1. -/
def cmpS (a b : ByteArray) : Int := Lib.compareBytes a.data.toList b.data.toList
set_option maxHeartbeats 1000000 in
set_option maxRecDepth 100000 in
theorem cmpString_any (a b : ByteArray) (w : World) :
    Calls Tryz.prog 190 #[.string a, .string b] w fun e w' => e = .returned (.int .i64 (cmpS a b)) ∧ w = w' := by
  go_enter Tryz.func190, Tryz.ntmps190
  go_wp2_with fail
  rw [run_callFunc_extern Tryz.func225 (by kernel_rfl) (by kernel_rfl) (by kernel_rfl) (e := Extern.BytealgCompare.compare) (by kernel_rfl), Lib.run_compareString]
  simp only [Result.andThen]
  rw [Oper.upon_value]
  go_wp2_with fail
  go_ret
  exact ⟨rfl, rfl⟩
theorem scmp_any (a b : ByteArray) (w : World) :
    Calls Tryz.prog 139 #[.string a, .string b] w fun e w' => e = .returned (.int .i64 (cmpS a b)) ∧ w = w' := by
  go_enter Tryz.func139, Tryz.ntmps139
  go_wp2_with (go_at_call 190; refine (cmpString_any _ _ _).mono ?_; rintro e w' ⟨rfl, rfl⟩)
  go_ret
  exact ⟨rfl, rfl⟩

theorem cmpI_i64 (a b : Int) : I64 (cmpI a b) := by unfold cmpI I64; split <;> (try split) <;> omega
theorem compareBytes_small : ∀ (a b : List UInt8), Lib.compareBytes a b = -1 ∨ Lib.compareBytes a b = 0 ∨ Lib.compareBytes a b = 1
  | [], [] => by simp [Lib.compareBytes]
  | [], _ :: _ => by simp [Lib.compareBytes]
  | _ :: _, [] => by simp [Lib.compareBytes]
  | a :: x, b :: y => by
    unfold Lib.compareBytes
    split
    · simp
    · split
      · simp
      · exact compareBytes_small x y
theorem cmpS_i64 (a b : ByteArray) : I64 (cmpS a b) := by
  unfold cmpS I64
  rcases compareBytes_small a.data.toList b.data.toList with h | h | h <;> rw [h] <;> omega

theorem heap_at_new (W : World) (o : Obj) (b : Nat) (hb : b = W.heap.size) : (W.alloc o).heap[b]? = some o := by subst hb; exact heap_alloc_new _ _

/-- The first that is not 0; else 0. -/
def orI : List Int → Int
  | [] => 0
  | a :: r => if a = 0 then orI r else a
theorem orI_eq (l : List Int) : orI l = firstE id l := by
  induction l with
  | nil => rfl
  | cons a r ih => simp [orI, firstE, ih]
set_option maxHeartbeats 400000 in
theorem or_any (l : List Int) (v : Value) (w : World) (hv : Sl intL w v l) :
    Calls Tryz.prog 152 #[v] w fun e w' => e = .returned (.int .i64 (orI l)) ∧ w = w' := by
  rw [orI_eq]
  obtain ⟨A, c, rfl, hlc, hcm⟩ := hv.form
  unfold maxLen at hcm
  go_enter Tryz.func152, Tryz.ntmps152
  go_wp2_with fail
  go_loop [8] (fun i => ∃ k : Nat, k ≤ l.length ∧ i = .int .i64 k ∧ Hid (∀ j x, j < k → l[j]? = some x → id x = 0)) (fun i => l.length - (intOf i).toNat)
  case atStart => exact ⟨0, Nat.zero_le _, rfl, fun j x hj => absurd hj (Nat.not_lt_zero _)⟩
  case round =>
    obtain ⟨k, hk, rfl, HA⟩ := hrel
    by_cases hlt : k < l.length
    · obtain ⟨d, hd⟩ : ∃ d, l[k]? = some d := ⟨_, List.getElem?_eq_getElem hlt⟩
      obtain ⟨b, o, rfl, _, hcell⟩ := int_at hv hd
      have HD : Hid (l[k]? = some d) := hd
      clear hd hv
      by_cases hz : d = 0
      · subst hz
        go_wp2_with fail
        go_round
        case rel => exact ⟨k + 1, by omega, by go_num, zero_step HA.out HD.out rfl⟩
        case measure => simp [intOf]; omega
      · have hzb : (d != 0) = true := by simpa using hz
        have HE : Hid (firstE id l = d) := firstE_hit HA.out HD.out hz
        clear hz
        go_wp2_with fail
        go_ret
        exact ⟨by rw [HE.out]; rfl, rfl⟩
    · have hkl : k = l.length := by omega
      subst hkl
      have HE : Hid (firstE id l = 0) := firstE_none HA.out
      clear hv
      go_wp2_with fail
      go_ret
      exact ⟨by rw [HE.out]; rfl, rfl⟩

/-! ### graph.OfNode, graph.OfTie, graph.Order -/
def nodE (n : Nod) : Int := if idB n.id = false then 1 else if nameE n.kind = 0 then recE n.props else nameE n.kind
def tieE (t : Tie) : Int := if nameE t.bond = 0 then (if (idB t.src && idB t.dst) then 0 else 1) else nameE t.bond
def tieO (a b : Tie) : Int := orI [cmpS a.bond b.bond, cmpI a.src b.src, cmpI a.dst b.dst]

set_option maxHeartbeats 400000 in
theorem ofNode_any (n : Nod) (v : Value) (w : World) (hi : Sm n.kind) (hv : Sl prpL w v n.props) :
    Calls Tryz.prog 97 #[.agg #[.int .i64 n.id, .string n.kind, v]] w fun e w' => e = .returned (errV (nodE n)) ∧ Below w.heap.size w w' := by
  obtain ⟨A, c, rfl, _, _⟩ := hv.form
  have HF : Hid (nodE n = if idB n.id = false then 1 else if nameE n.kind = 0 then recE n.props else nameE n.kind) := rfl
  obtain ⟨id, kind, props⟩ := n
  have hi' : Sm kind := hi
  have hb0 : Below w.heap.size w (w.alloc (.cells #[.int .i64 id, .string kind, .slice A props.length c] 29)) := (Below.refl _ _).alloc (Nat.le_refl _) _
  cases h1 : idB id with
  | false =>
    have HE : Hid (errV (nodE ⟨id, kind, props⟩) = .iface 122 (.int .i64 1)) := by rw [HF.out]; simp only [h1, if_true]; rfl
    go_enter Tryz.func97, Tryz.ntmps97
    go_wp2_with (go_at_call 96; refine (id_b _ _).mono ?_; rintro e w' ⟨rfl, rfl⟩)
    go_ret
    exact ⟨by rw [HE.out]; rfl, hb0⟩
  | true =>
    by_cases h2 : nameE kind = 0
    · have HE : Hid (errV (nodE ⟨id, kind, props⟩) = errV (recE props)) := by unfold Hid; rw [HF.out]; simp only [h1, h2, if_true, Bool.true_eq_false, if_false]
      have hE : errV (nameE kind) = .nilIface := errV_zero h2
      clear h2
      go_enter Tryz.func97, Tryz.ntmps97
      go_wp2_with (go_at_call 96; refine (id_b _ _).mono ?_; rintro e w' ⟨rfl, rfl⟩)
      refine (name_any kind _ hi').mono ?_
      rintro e w1 ⟨rfl, hb1⟩
      obtain ⟨hc, hf⟩ := bcell hb1
      have hb2 : Below w.heap.size w w1 := hb0.trans (hb1.mono hb0.size)
      rw [hE]
      go_wp2_with fail
      refine (recCheck_any props _ _ (hv.below hb2)).mono ?_
      rintro e w2 ⟨rfl, hb3⟩
      go_wp2_with fail
      go_ret
      exact ⟨by rw [HE.out]; rfl, hb2.trans (hb3.mono hb2.size)⟩
    · have HE : Hid (errV (nodE ⟨id, kind, props⟩) = .iface 122 (.int .i64 (nameE kind))) := by unfold Hid; rw [HF.out]; simp only [h1, h2, Bool.true_eq_false, if_false]; exact errV_some h2
      have hE : errV (nameE kind) = .iface 122 (.int .i64 (nameE kind)) := errV_some h2
      clear h2
      go_enter Tryz.func97, Tryz.ntmps97
      go_wp2_with (go_at_call 96; refine (id_b _ _).mono ?_; rintro e w' ⟨rfl, rfl⟩)
      refine (name_any kind _ hi').mono ?_
      rintro e w1 ⟨rfl, hb1⟩
      have hb2 : Below w.heap.size w w1 := hb0.trans (hb1.mono hb0.size)
      rw [hE]
      go_wp2_with fail
      go_ret
      exact ⟨by rw [HE.out]; rfl, hb2⟩

set_option maxHeartbeats 400000 in
theorem ofTie_any (t : Tie) (w : World) (hs : Sm t.bond) :
    Calls Tryz.prog 98 #[.agg #[.string t.bond, .int .i64 t.src, .int .i64 t.dst]] w fun e w' => e = .returned (errV (tieE t)) ∧ Below w.heap.size w w' := by
  have HF : Hid (tieE t = if nameE t.bond = 0 then (if (idB t.src && idB t.dst) then 0 else 1) else nameE t.bond) := rfl
  obtain ⟨bond, src, dst⟩ := t
  have hs : Sm bond := hs
  have hb0 : Below w.heap.size w (w.alloc (.cells #[.string bond, .int .i64 src, .int .i64 dst] 35)) := (Below.refl _ _).alloc (Nat.le_refl _) _
  by_cases h1 : nameE bond = 0
  · have hE : errV (nameE bond) = .nilIface := errV_zero h1
    have HG : Hid (tieE ⟨bond, src, dst⟩ = if (idB src && idB dst) then 0 else 1) := by unfold Hid; rw [HF.out]; simp only [h1, if_true]
    clear h1
    cases h2 : idB src with
    | false =>
      have HE : Hid (errV (tieE ⟨bond, src, dst⟩) = .iface 122 (.int .i64 1)) := by rw [HG.out, h2]; rfl
      go_enter Tryz.func98, Tryz.ntmps98
      go_wp2_with fail
      refine (name_any bond _ hs).mono ?_
      rintro e w1 ⟨rfl, hb1⟩
      obtain ⟨hc, hf⟩ := bcell hb1
      have hb2 : Below w.heap.size w w1 := hb0.trans (hb1.mono hb0.size)
      rw [hE]
      go_wp2_with (go_at_call 96; refine (id_b _ _).mono ?_; rintro e w' ⟨rfl, rfl⟩)
      go_ret
      exact ⟨by rw [HE.out]; rfl, hb2⟩
    | true =>
      cases h3 : idB dst with
      | false =>
        have HE : Hid (errV (tieE ⟨bond, src, dst⟩) = .iface 122 (.int .i64 1)) := by rw [HG.out, h2, h3]; rfl
        go_enter Tryz.func98, Tryz.ntmps98
        go_wp2_with fail
        refine (name_any bond _ hs).mono ?_
        rintro e w1 ⟨rfl, hb1⟩
        obtain ⟨hc, hf⟩ := bcell hb1
        have hb2 : Below w.heap.size w w1 := hb0.trans (hb1.mono hb0.size)
        rw [hE]
        go_wp2_with (go_at_call 96; refine (id_b _ _).mono ?_; rintro e w' ⟨rfl, rfl⟩)
        go_ret
        exact ⟨by rw [HE.out]; rfl, hb2⟩
      | true =>
        have HE : Hid (errV (tieE ⟨bond, src, dst⟩) = .nilIface) := by rw [HG.out, h2, h3]; rfl
        go_enter Tryz.func98, Tryz.ntmps98
        go_wp2_with fail
        refine (name_any bond _ hs).mono ?_
        rintro e w1 ⟨rfl, hb1⟩
        obtain ⟨hc, hf⟩ := bcell hb1
        have hb2 : Below w.heap.size w w1 := hb0.trans (hb1.mono hb0.size)
        rw [hE]
        go_wp2_with (go_at_call 96; refine (id_b _ _).mono ?_; rintro e w' ⟨rfl, rfl⟩)
        go_ret
        exact ⟨by rw [HE.out]; rfl, hb2⟩
  · have HE : Hid (errV (tieE ⟨bond, src, dst⟩) = .iface 122 (.int .i64 (nameE bond))) := by unfold Hid; rw [HF.out]; simp only [h1, if_false]; exact errV_some h1
    have hE : errV (nameE bond) = .iface 122 (.int .i64 (nameE bond)) := errV_some h1
    clear h1
    go_enter Tryz.func98, Tryz.ntmps98
    go_wp2_with fail
    refine (name_any bond _ hs).mono ?_
    rintro e w1 ⟨rfl, hb1⟩
    obtain ⟨hc, hf⟩ := bcell hb1
    have hb2 : Below w.heap.size w w1 := hb0.trans (hb1.mono hb0.size)
    rw [hE]
    go_wp2_with (go_at_call 96; refine (id_b _ _).mono ?_; rintro e w' ⟨rfl, rfl⟩)
    go_ret
    exact ⟨by rw [HE.out]; rfl, hb2⟩

set_option maxHeartbeats 1000000 in
theorem order_any (a b : Tie) (w : World) :
    Calls Tryz.prog 99 #[.agg #[.string a.bond, .int .i64 a.src, .int .i64 a.dst], .agg #[.string b.bond, .int .i64 b.src, .int .i64 b.dst]] w fun e w' => e = .returned (.int .i64 (tieO a b)) ∧ Below w.heap.size w w' := by
  have HF : Hid (tieO a b = orI [cmpS a.bond b.bond, cmpI a.src b.src, cmpI a.dst b.dst]) := rfl
  go_enter Tryz.func99, Tryz.ntmps99
  go_wp2_with fail
  refine wp_quiet_tail 15 (by kernel_rfl) (by kernel_rfl) ?_
  simp only [List.take_succ_cons, List.take_zero, List.drop_succ_cons, List.drop_zero]
  repeat (go_big_quiet_step (first | (go_at_call 139; exact Calls.quiet_of_same ((scmp_any _ _ _).mono fun _ _ h => ⟨h.1, h.2.symm⟩)) | (go_at_call 144; exact Calls.quiet_of_same ((cmp_any _ _ _).mono fun _ _ h => ⟨h.1, h.2.symm⟩))))
  refine wpQuiet_nil ?_
  intro _ hw'
  obtain ⟨nq, hw''⟩ := hw'
  subst hw''
  have hI : ∀ x ∈ [cmpS a.bond b.bond, cmpI a.src b.src, cmpI a.dst b.dst], I64 x := by
    intro x hx
    simp only [List.mem_cons, List.not_mem_nil, or_false] at hx
    rcases hx with rfl | rfl | rfl
    · exact cmpS_i64 _ _
    · exact cmpI_i64 _ _
    · exact cmpI_i64 _ _
  go_wp2_with fail
  refine (or_any [cmpS a.bond b.bond, cmpI a.src b.src, cmpI a.dst b.dst] _ _ ?_).mono ?_
  · exact sl_ints [cmpS a.bond b.bond, cmpI a.src b.src, cmpI a.dst b.dst] hI 3 (by simp) (by unfold maxLen; omega) (heap_at_new _ _ _ (by simp [World.drewN]))
  rintro e w' ⟨rfl, rfl⟩
  go_wp2_with fail
  go_ret
  refine ⟨by rw [HF.out]; rfl, Below.alloc (below_drewN (((Below.refl _ _).alloc (Nat.le_refl _) _).alloc (by simp) _) _) (by simp [World.drewN]; omega) _⟩
end Go.Proofs.YtngbbefpphinjaaGreatDoor

/- Contract: what graph.Check of the program answers. -/
namespace Go.Proofs.YtngbbefpphinjaaGreatDoor
open Go.RowKit

/-- The one ahead of place k. -/
def prev {D : Type} (l : List D) : Nat → Option D
  | 0 => none
  | k + 1 => l[k]?
theorem drop_cons {D : Type} {l : List D} {k : Nat} {d : D} (h : l[k]? = some d) : l.drop k = d :: l.drop (k + 1) := by
  obtain ⟨hk, rfl⟩ := List.getElem?_eq_some_iff.1 h
  exact List.drop_eq_getElem_cons hk

def nodsE : Option Nod → List Nod → Int
  | _, [] => 0
  | p, n :: r => if idB n.id = false then 1 else if (match p with | some q => decide (n.id ≤ q.id) | none => false) then 7 else if nodE n = 0 then nodsE (some n) r else nodE n
def tiesE : Option Tie → List Tie → Int
  | _, [] => 0
  | p, t :: r => if tieE t = 0 then (if (match p with | some q => decide (0 ≤ tieO q t) | none => false) then 7 else tiesE (some t) r) else tieE t
/-- The fault of a graph. -/
def grfE (g : Grf) : Int :=
  if 60 < g.nodes.length ∨ 120 < g.ties.length then 4 else if nodsE none g.nodes = 0 then tiesE none g.ties else nodsE none g.nodes

theorem cell_box3 (w : World) (a b c : Value) (t : TypeId) : (w.alloc (.cells #[a, b, c] t)).cell? ⟨w.heap.size, 0, none⟩ = some a ∧ (w.alloc (.cells #[a, b, c] t)).cell? ⟨w.heap.size, 1, none⟩ = some b ∧
    (w.alloc (.cells #[a, b, c] t)).cell? ⟨w.heap.size, 2, none⟩ = some c :=
  ⟨by rw [World.cell?_alloc_at _ _ _ _ rfl]; rfl, by rw [World.cell?_alloc_at _ _ _ _ rfl]; rfl, by rw [World.cell?_alloc_at _ _ _ _ rfl]; rfl⟩
theorem cell_box2 (w : World) (a b : Value) (t : TypeId) : (w.alloc (.cells #[a, b] t)).cell? ⟨w.heap.size, 0, none⟩ = some a ∧ (w.alloc (.cells #[a, b] t)).cell? ⟨w.heap.size, 1, none⟩ = some b :=
  ⟨by rw [World.cell?_alloc_at _ _ _ _ rfl]; rfl, by rw [World.cell?_alloc_at _ _ _ _ rfl]; rfl⟩

set_option maxHeartbeats 4000000 in
theorem grfCheck_any (g : Grf) (vn vt : Value) (w : World) (hg : GrfR w vn vt g) :
    Calls Tryz.prog 48 #[.agg #[vn, vt]] w fun e w' => e = .returned (errV (grfE g)) ∧ Below w.heap.size w w' := by
  obtain ⟨hn, ht⟩ := hg
  obtain ⟨A, c, rfl, hlc, hcm⟩ := hn.form
  obtain ⟨A', c', rfl, hlc', hcm'⟩ := ht.form
  unfold maxLen at hcm hcm'
  have HF : Hid (grfE g = if 60 < g.nodes.length ∨ 120 < g.ties.length then 4 else if nodsE none g.nodes = 0 then tiesE none g.ties else nodsE none g.nodes) := rfl
  obtain ⟨q0, q1⟩ := cell_box2 w (.slice A g.nodes.length c) (.slice A' g.ties.length c') 25
  have hb0 : Below w.heap.size w (w.alloc (.cells #[.slice A g.nodes.length c, .slice A' g.ties.length c'] 25)) := (Below.refl _ _).alloc (Nat.le_refl _) _
  by_cases h1 : 60 < g.nodes.length
  · have HE : Hid (errV (grfE g) = .iface 122 (.int .i64 4)) := by rw [HF.out, if_pos (Or.inl h1)]; rfl
    have h1' : (60 : Int) < (g.nodes.length : Int) := by omega
    clear hn ht
    go_enter Tryz.func48, Tryz.ntmps48
    go_wp2_with fail
    go_ret
    exact ⟨by rw [HE.out]; rfl, hb0⟩
  have h1' : decide ((60 : Int) < (g.nodes.length : Int)) = false := by simp; omega
  have h1'' : (g.nodes.length : Int) ≤ 60 := by omega
  by_cases h2 : 120 < g.ties.length
  · have HE : Hid (errV (grfE g) = .iface 122 (.int .i64 4)) := by rw [HF.out, if_pos (Or.inr h2)]; rfl
    have h2' : (120 : Int) < (g.ties.length : Int) := by omega
    clear hn ht
    go_enter Tryz.func48, Tryz.ntmps48
    go_wp2_with fail
    go_ret
    exact ⟨by rw [HE.out]; rfl, hb0⟩
  have h2' : decide ((120 : Int) < (g.ties.length : Int)) = false := by simp; omega
  have h2'' : (g.ties.length : Int) ≤ 120 := by omega
  have HG : Hid (grfE g = if nodsE none g.nodes = 0 then tiesE none g.ties else nodsE none g.nodes) := by rw [HF.out, if_neg (by omega)]; rfl
  clear HF
  have H1 := Lib.hid h1
  have H2 := Lib.hid h2
  clear h1 h2
  have hw0 : w.heap.size < (w.alloc (.cells #[.slice A g.nodes.length c, .slice A' g.ties.length c'] 25)).heap.size := by simp
  go_enter Tryz.func48, Tryz.ntmps48
  go_wp2_with fail
  generalize hW : w.alloc (.cells #[.slice A g.nodes.length c, .slice A' g.ties.length c'] 25) = W at q0 q1 hb0 hw0
  clear hW
  go_loopw [23] (fun i wr => ∃ k : Nat, k ≤ g.nodes.length ∧ i = .int .i64 k ∧ Below W.heap.size W wr ∧ Hid (nodsE none g.nodes = nodsE (prev g.nodes k) (g.nodes.drop k))) (fun i _ => g.nodes.length - (intOf i).toNat)
  case atStart => exact ⟨0, Nat.zero_le _, rfl, Below.refl _ _, rfl⟩
  case round =>
    obtain ⟨k, hk, rfl, hb, HA⟩ := hrel
    have hbw : Below w.heap.size w wr := hb0.trans (hb.mono hb0.size)
    have r0 : wr.cell? ⟨w.heap.size, 0, none⟩ = some (.slice A g.nodes.length c) := cell_below hb q0
    have r1 : wr.cell? ⟨w.heap.size, 1, none⟩ = some (.slice A' g.ties.length c') := cell_below hb q1
    by_cases hlt : k < g.nodes.length
    · obtain ⟨d, hd⟩ : ∃ d, g.nodes[k]? = some d := ⟨_, List.getElem?_eq_getElem hlt⟩
      obtain ⟨b, o, rfl, hall⟩ := nod_all (hn.below hbw) (by omega)
      obtain ⟨u, hid, hkd, hpr, x0, x1, x2⟩ := hall _ _ hd
      obtain ⟨Ar, cr, rfl, _, _⟩ := hpr.form
      have hwr : w.heap.size < wr.heap.size := by have := hb.size; omega
      have hbl : b < wr.heap.size := World.block_lt_of_cell? _ _ x0
      have HS : Hid (nodsE none g.nodes = nodsE (prev g.nodes k) (d :: g.nodes.drop (k + 1))) := by rw [HA.out, drop_cons hd]; rfl
      have hbx : Below W.heap.size W (wr.alloc (.cells #[.int .i64 d.id, .string d.kind, .slice Ar d.props.length cr] 29)) := hb.alloc hb.size _
      clear HA
      cases h3 : idB d.id with
      | false =>
        have HE : Hid (errV (grfE g) = .iface 122 (.int .i64 1)) := by
          have : nodsE none g.nodes = 1 := by rw [HS.out]; simp only [nodsE, h3, if_true]
          rw [HG.out, if_neg (by rw [this]; decide), this]; rfl
        clear hall hd hn ht
        go_wp2_with (go_at_call 96; refine (id_b _ _).mono ?_; rintro e w' ⟨rfl, rfl⟩)
        go_ret
        exact ⟨by rw [HE.out]; rfl, hb0.trans (hbx.mono hb0.size)⟩
      | true =>
        rcases Nat.eq_zero_or_pos k with hk0 | hk0
        · have hkd0 : decide ((0 : Int) < (k : Int)) = false := by simp; omega
          have hkd1 : (k : Int) ≤ 0 := by omega
          have hkd2 : decide (0 < k) = false := by simp; omega
          have HS' : Hid (nodsE none g.nodes = if nodE d = 0 then nodsE (some d) (g.nodes.drop (k + 1)) else nodE d) := by
            rw [HS.out, hk0]; simp only [nodsE, prev, h3, Bool.true_eq_false, if_false]; rfl
          have HP : Hid (prev g.nodes (k + 1) = some d) := hd
          clear hall hd hk0 HS
          by_cases h4 : nodE d = 0
          · have hE : errV (nodE d) = .nilIface := errV_zero h4
            have HT : Hid (nodsE none g.nodes = nodsE (prev g.nodes (k + 1)) (g.nodes.drop (k + 1))) := by rw [HS'.out, if_pos h4, HP.out]; rfl
            clear h4 HS'
            go_wp2_with (go_at_call 96; refine (id_b _ _).mono ?_; rintro e w' ⟨rfl, rfl⟩)
            go_quiet (fail)
            go_wp2_with fail
            refine (ofNode_any d _ _ hkd ((hpr.below ((Below.refl _ _).alloc (Nat.le_refl _) _)).below (below_drewN (Below.refl _ _) _))).mono ?_
            rintro e w1 ⟨rfl, hb1⟩
            rw [hE]
            have hb2 : Below W.heap.size W w1 := (below_drewN hbx nq).trans (hb1.mono (by have := hb.size; simp [World.drewN]; omega))
            go_wp2_with fail
            go_roundw
            case rel => exact ⟨k + 1, by omega, by go_num, hb2, HT⟩
            case measure => simp [intOf]; omega
          · have hE : errV (nodE d) = .iface 122 (.int .i64 (nodE d)) := errV_some h4
            have HE : Hid (errV (grfE g) = .iface 122 (.int .i64 (nodE d))) := by
              have : nodsE none g.nodes = nodE d := by rw [HS'.out, if_neg h4]
              rw [HG.out, if_neg (by rw [this]; exact h4), this]; exact hE
            clear h4 HS'
            go_wp2_with (go_at_call 96; refine (id_b _ _).mono ?_; rintro e w' ⟨rfl, rfl⟩)
            go_quiet (fail)
            go_wp2_with fail
            refine (ofNode_any d _ _ hkd ((hpr.below ((Below.refl _ _).alloc (Nat.le_refl _) _)).below (below_drewN (Below.refl _ _) _))).mono ?_
            rintro e w1 ⟨rfl, hb1⟩
            rw [hE]
            have hb2 : Below W.heap.size W w1 := (below_drewN hbx nq).trans (hb1.mono (by have := hb.size; simp [World.drewN]; omega))
            go_wp2_with fail
            go_ret
            exact ⟨by rw [HE.out]; rfl, hb0.trans (hb2.mono hb0.size)⟩
        · obtain ⟨p, hp⟩ : ∃ p, g.nodes[k - 1]? = some p := ⟨_, List.getElem?_eq_getElem (by omega)⟩
          obtain ⟨u', hid', _, _, y0, _, _⟩ := hall _ _ hp
          have hkd0 : (0 : Int) < (k : Int) := by omega
          have hkd1 : decide ((0 : Int) < (k : Int)) = true := by simp; omega
          have hkd2 : decide (0 < k) = true := by simp; omega
          have hpv : prev g.nodes k = some p := by
            obtain ⟨m, rfl⟩ : ∃ m, k = m + 1 := ⟨k - 1, by omega⟩
            exact hp
          have HP : Hid (prev g.nodes (k + 1) = some d) := hd
          by_cases h5 : d.id ≤ p.id
          · have h5' : decide (d.id ≤ p.id) = true := by simpa using h5
            have HE : Hid (errV (grfE g) = .iface 122 (.int .i64 7)) := by
              have : nodsE none g.nodes = 7 := by rw [HS.out, hpv]; simp only [nodsE, h3, h5', Bool.true_eq_false, if_false, if_true]
              rw [HG.out, if_neg (by rw [this]; decide), this]; rfl
            clear hall hd hp HS hpv hn ht
            go_wp2_with (go_at_call 96; refine (id_b _ _).mono ?_; rintro e w' ⟨rfl, rfl⟩)
            go_quiet (fail)
            go_wp2_with fail
            go_ret
            exact ⟨by rw [HE.out]; rfl, hb0.trans ((below_drewN hbx _).mono hb0.size)⟩
          · have h5' : decide (d.id ≤ p.id) = false := by simpa using h5
            have h5'' : p.id < d.id := by omega
            have HS' : Hid (nodsE none g.nodes = if nodE d = 0 then nodsE (some d) (g.nodes.drop (k + 1)) else nodE d) := by
              unfold Hid; rw [HS.out, hpv]; simp only [nodsE, h3, h5', Bool.true_eq_false, if_false, Bool.false_eq_true]
            clear hall hd hp HS hpv hn ht h5
            by_cases h4 : nodE d = 0
            · have hE : errV (nodE d) = .nilIface := errV_zero h4
              have HT : Hid (nodsE none g.nodes = nodsE (prev g.nodes (k + 1)) (g.nodes.drop (k + 1))) := by rw [HS'.out, if_pos h4, HP.out]; rfl
              clear h4 HS'
              go_wp2_with (go_at_call 96; refine (id_b _ _).mono ?_; rintro e w' ⟨rfl, rfl⟩)
              go_quiet (fail)
              go_wp2_with fail
              refine (ofNode_any d _ _ hkd ((hpr.below ((Below.refl _ _).alloc (Nat.le_refl _) _)).below (below_drewN (Below.refl _ _) _))).mono ?_
              rintro e w1 ⟨rfl, hb1⟩
              rw [hE]
              have hb2 : Below W.heap.size W w1 := (below_drewN hbx nq).trans (hb1.mono (by have := hb.size; simp [World.drewN]; omega))
              go_wp2_with fail
              go_roundw
              case rel => exact ⟨k + 1, by omega, by go_num, hb2, HT⟩
              case measure => simp [intOf]; omega
            · have hE : errV (nodE d) = .iface 122 (.int .i64 (nodE d)) := errV_some h4
              have HE : Hid (errV (grfE g) = .iface 122 (.int .i64 (nodE d))) := by
                have : nodsE none g.nodes = nodE d := by rw [HS'.out, if_neg h4]
                rw [HG.out, if_neg (by rw [this]; exact h4), this]; exact hE
              clear h4 HS'
              go_wp2_with (go_at_call 96; refine (id_b _ _).mono ?_; rintro e w' ⟨rfl, rfl⟩)
              go_quiet (fail)
              go_wp2_with fail
              refine (ofNode_any d _ _ hkd ((hpr.below ((Below.refl _ _).alloc (Nat.le_refl _) _)).below (below_drewN (Below.refl _ _) _))).mono ?_
              rintro e w1 ⟨rfl, hb1⟩
              rw [hE]
              have hb2 : Below W.heap.size W w1 := (below_drewN hbx nq).trans (hb1.mono (by have := hb.size; simp [World.drewN]; omega))
              go_wp2_with fail
              go_ret
              exact ⟨by rw [HE.out]; rfl, hb0.trans (hb2.mono hb0.size)⟩
    · have hkl : k = g.nodes.length := by omega
      subst hkl
      have HT : Hid (grfE g = tiesE none g.ties) := by
        have : nodsE none g.nodes = 0 := by rw [HA.out, List.drop_length]; rfl
        rw [HG.out, if_pos this]; rfl
      clear HG HA hn
      obtain ⟨wo, rfl⟩ : ∃ wo : World, wo = wr := ⟨_, rfl⟩
      go_wp2_with fail
      go_loopw [57] (fun i wr => ∃ k : Nat, k ≤ g.ties.length ∧ i = .int .i64 k ∧ Below wo.heap.size wo wr ∧ Hid (tiesE none g.ties = tiesE (prev g.ties k) (g.ties.drop k))) (fun i _ => g.ties.length - (intOf i).toNat)
      case atStart => exact ⟨0, Nat.zero_le _, rfl, Below.refl _ _, rfl⟩
      case round =>
        obtain ⟨k, hk, rfl, hc, HA⟩ := hrel
        have hbw' : Below w.heap.size w wr := hbw.trans (hc.mono hbw.size)
        have r0 : wr.cell? ⟨w.heap.size, 0, none⟩ = some (.slice A g.nodes.length c) := cell_below hc r0
        have r1 : wr.cell? ⟨w.heap.size, 1, none⟩ = some (.slice A' g.ties.length c') := cell_below hc r1
        by_cases hlt : k < g.ties.length
        · obtain ⟨d, hd⟩ : ∃ d, g.ties[k]? = some d := ⟨_, List.getElem?_eq_getElem hlt⟩
          obtain ⟨b, o, rfl, hall⟩ := tie_all (ht.below hbw') (by omega)
          obtain ⟨hok, x0, x1, x2⟩ := hall _ _ hd
          have HS : Hid (tiesE none g.ties = tiesE (prev g.ties k) (d :: g.ties.drop (k + 1))) := by rw [HA.out, drop_cons hd]; rfl
          have HP : Hid (prev g.ties (k + 1) = some d) := hd
          have hwr : w.heap.size < wr.heap.size := by have := hc.size; have := hb.size; omega
          have hbl : b < wr.heap.size := World.block_lt_of_cell? _ _ x0
          have hbx : Below w.heap.size w (wr.alloc (.cells #[.string d.bond, .int .i64 d.src, .int .i64 d.dst] 35)) := hbw'.alloc hbw'.size _
          have hbo : Below wo.heap.size wo (wr.alloc (.cells #[.string d.bond, .int .i64 d.src, .int .i64 d.dst] 35)) := hc.alloc hc.size _
          clear HA
          by_cases h4 : tieE d = 0
          · have hE : errV (tieE d) = .nilIface := errV_zero h4
            rcases Nat.eq_zero_or_pos k with hk0 | hk0
            · have hkd0 : decide ((0 : Int) < (k : Int)) = false := by simp; omega
              have hkd1 : (k : Int) ≤ 0 := by omega
              have hkd2 : decide (0 < k) = false := by simp; omega
              have HT : Hid (tiesE none g.ties = tiesE (prev g.ties (k + 1)) (g.ties.drop (k + 1))) := by
                unfold Hid; rw [HS.out, HP.out, hk0]; simp [tiesE, prev, h4]
              clear hall hd hk0 HS h4 ht
              go_wp2_with fail
              refine (ofTie_any d _ hok.1).mono ?_
              rintro e w1 ⟨rfl, hb1⟩
              have hb2 : Below wo.heap.size wo w1 := hbo.trans (hb1.mono (by have := hc.size; simp; omega))
              rw [hE]
              go_wp2_with fail
              go_quiet (fail)
              go_wp2_with fail
              go_roundw
              case rel => exact ⟨k + 1, by omega, by go_num, below_drewN hb2 _, HT⟩
              case measure => simp [intOf]; omega
            · obtain ⟨p, hp⟩ : ∃ p, g.ties[k - 1]? = some p := ⟨_, List.getElem?_eq_getElem (by omega)⟩
              obtain ⟨hok', y0, y1, y2⟩ := hall _ _ hp
              have hkd0 : (0 : Int) < (k : Int) := by omega
              have hkd1 : decide ((0 : Int) < (k : Int)) = true := by simp; omega
              have hkd2 : decide (0 < k) = true := by simp; omega
              have hpv : prev g.ties k = some p := by
                obtain ⟨m, rfl⟩ : ∃ m, k = m + 1 := ⟨k - 1, by omega⟩
                exact hp
              have e0 := World.cell?_alloc_lt wr (.cells #[.string d.bond, .int .i64 d.src, .int .i64 d.dst] 35) (a := ⟨b, o + (k - 1) * 3, none⟩) hbl
              have e1 := World.cell?_alloc_lt wr (.cells #[.string d.bond, .int .i64 d.src, .int .i64 d.dst] 35) (a := ⟨b, o + (k - 1) * 3 + 1, none⟩) hbl
              have e2 := World.cell?_alloc_lt wr (.cells #[.string d.bond, .int .i64 d.src, .int .i64 d.dst] 35) (a := ⟨b, o + (k - 1) * 3 + 2, none⟩) hbl
              have e3 := World.cell?_alloc_lt wr (.cells #[.string d.bond, .int .i64 d.src, .int .i64 d.dst] 35) (a := ⟨w.heap.size, 1, none⟩) hwr
              obtain ⟨f0, f1, f2⟩ := cell_box3 wr (.string d.bond) (.int .i64 d.src) (.int .i64 d.dst) 35
              have hord := fun (x : World) => order_any p d x
              by_cases h5 : 0 ≤ tieO p d
              · have h5' : decide (0 ≤ tieO p d) = true := by simpa using h5
                have HE : Hid (errV (grfE g) = .iface 122 (.int .i64 7)) := by
                  have : tiesE none g.ties = 7 := by rw [HS.out, hpv]; simp only [tiesE, h4, h5', if_true]
                  rw [HT.out, this]; rfl
                clear hall hd HS h4 ht hp h5 hpv
                go_wp2_with fail
                refine (ofTie_any d _ hok.1).mono ?_
                rintro e w1 ⟨rfl, hb1⟩
                rw [hE]
                have g1 := fun dd os => Go.cell_regrown (cell_below hb1 (e3.trans r1)) dd os
                have z0 := fun dd os => Go.cell_regrown (cell_below hb1 (e0.trans y0)) dd os
                have z1 := fun dd os => Go.cell_regrown (cell_below hb1 (e1.trans y1)) dd os
                have z2 := fun dd os => Go.cell_regrown (cell_below hb1 (e2.trans y2)) dd os
                have v0 := fun dd os => Go.cell_regrown (cell_below hb1 f0) dd os
                have v1 := fun dd os => Go.cell_regrown (cell_below hb1 f1) dd os
                have v2 := fun dd os => Go.cell_regrown (cell_below hb1 f2) dd os
                clear e0 e1 e2 e3 f0 f1 f2
                go_wp2_with fail
                refine Go.wp_region_quiet_below (by kernel_rfl) (by kernel_rfl) ?_
                repeat (go_big_quiet_step ((go_at_call 99; exact Go.Calls.regrown_of (hord _))))
                refine wpQuiet_nil ?_
                intro _ hw'
                obtain ⟨⟨dq, osq⟩, hw''⟩ := hw'
                subst hw''
                go_wp2_with fail
                go_ret
                exact ⟨by rw [HE.out]; rfl, (hbx.trans (hb1.mono hbx.size)).trans ((below_regrown w1 dq osq).mono (by have := hb1.size; have := hbx.size; omega))⟩
              · have h5' : decide (0 ≤ tieO p d) = false := by simpa using h5
                have HT' : Hid (tiesE none g.ties = tiesE (prev g.ties (k + 1)) (g.ties.drop (k + 1))) := by
                  unfold Hid; rw [HS.out, HP.out, hpv]; simp only [tiesE, h4, h5', if_true, Bool.false_eq_true, if_false]
                clear hall hd HS h4 ht hp h5 hpv
                go_wp2_with fail
                refine (ofTie_any d _ hok.1).mono ?_
                rintro e w1 ⟨rfl, hb1⟩
                rw [hE]
                have g1 := fun dd os => Go.cell_regrown (cell_below hb1 (e3.trans r1)) dd os
                have z0 := fun dd os => Go.cell_regrown (cell_below hb1 (e0.trans y0)) dd os
                have z1 := fun dd os => Go.cell_regrown (cell_below hb1 (e1.trans y1)) dd os
                have z2 := fun dd os => Go.cell_regrown (cell_below hb1 (e2.trans y2)) dd os
                have v0 := fun dd os => Go.cell_regrown (cell_below hb1 f0) dd os
                have v1 := fun dd os => Go.cell_regrown (cell_below hb1 f1) dd os
                have v2 := fun dd os => Go.cell_regrown (cell_below hb1 f2) dd os
                clear e0 e1 e2 e3 f0 f1 f2
                go_wp2_with fail
                refine Go.wp_region_quiet_below (by kernel_rfl) (by kernel_rfl) ?_
                repeat (go_big_quiet_step ((go_at_call 99; exact Go.Calls.regrown_of (hord _))))
                refine wpQuiet_nil ?_
                intro _ hw'
                obtain ⟨⟨dq, osq⟩, hw''⟩ := hw'
                subst hw''
                go_wp2_with fail
                have hb3 : Below wo.heap.size wo w1 := hbo.trans (hb1.mono hbo.size)
                go_roundw
                case rel => exact ⟨k + 1, by omega, by go_num, hb3.trans ((below_regrown w1 dq osq).mono hb3.size), HT'⟩
                case measure => simp [intOf]; omega
          · have hE : errV (tieE d) = .iface 122 (.int .i64 (tieE d)) := errV_some h4
            have HE : Hid (errV (grfE g) = .iface 122 (.int .i64 (tieE d))) := by
              have : tiesE none g.ties = tieE d := by rw [HS.out]; simp only [tiesE, h4, if_false]
              rw [HT.out, this]; exact hE
            clear hall hd HS h4 ht
            go_wp2_with fail
            refine (ofTie_any d _ hok.1).mono ?_
            rintro e w1 ⟨rfl, hb1⟩
            rw [hE]
            go_wp2_with fail
            go_ret
            exact ⟨by rw [HE.out]; rfl, hbx.trans (hb1.mono hbx.size)⟩
        · have hkl : k = g.ties.length := by omega
          subst hkl
          have HE : Hid (errV (grfE g) = .nilIface) := by
            have : tiesE none g.ties = 0 := by rw [HA.out, List.drop_length]; rfl
            rw [HT.out, this]; rfl
          clear ht
          go_wp2_with fail
          go_ret
          exact ⟨by rw [HE.out]; rfl, hbw'⟩
end Go.Proofs.YtngbbefpphinjaaGreatDoor

/- Contracts: slices.BinarySearchFunc over nodes and properties, graph.Find, record.Find. -/
namespace Go.Proofs.YtngbbefpphinjaaGreatDoor
open Go.RowKit

/-- What is asked of a comparing function value. -/
def CmpB {D : Type} (P : Program) (g : Nat) (caps : Array Value) (V : World → D → Value → Prop) (tv : Value) (c : D → Int) (w : World) : Prop :=
  ∀ x u wx, Below w.heap.size w wx → V wx x u → Calls P g (#[u, tv] ++ caps) wx (fun e w' => e = .returned (.int .i64 (c x)) ∧ Below wx.heap.size wx w')
/-- Is there one at that place that compares equal? -/
def eqAt {D : Type} (c : D → Int) (l : List D) (pos : Nat) : Bool := match l[pos]? with | some d => c d == 0 | none => false

def nodV (w : World) (d : Nod) (u : Value) : Prop := ∃ v, u = .agg #[.int .i64 d.id, .string d.kind, v] ∧ I64 d.id ∧ Sm d.kind ∧ Sl prpL w v d.props
def prpV (_ : World) (d : Prp) (u : Value) : Prop := u = .agg #[.string d.name, .int .i64 d.v.ty, .int .i64 d.v.n, .string d.v.s] ∧ d.ok


set_option maxHeartbeats 2000000 in
theorem bs_nod (g : Nat) (caps : Array Value) (eg : ∀ args w, (callFunc g args).run Tryz.prog w = .ok (.enter g args) w) (tv : Value) (c : Nod → Int) (l : List Nod) (v : Value) (w : World) (hv : Sl nodL w v l)
    (hp : CmpB Tryz.prog g caps nodV tv c w) (pos : Nat) (hlen : l.length ≤ 1000) (hpos : pos ≤ l.length) (h1 : ∀ i d, i < pos → l[i]? = some d → c d < 0) (h2 : ∀ i d, pos ≤ i → l[i]? = some d → 0 ≤ c d) :
    Calls Tryz.prog 142 #[v, tv, .func (.func g) #[] caps] w fun e w' => e = .returned (.tuple #[.int .i64 pos, .bool (eqAt c l pos)]) ∧ Below w.heap.size w w' := by
  obtain ⟨A, cp, rfl, hlc, hcm⟩ := hv.form
  have hcm' : l.length ≤ 9223372036854775807 := by unfold maxLen at hcm; omega
  clear hcm hlc hcm'
  have P1 := Lib.hid h1
  have P2 := Lib.hid h2
  clear h1 h2
  go_enter Tryz.func142, Tryz.ntmps142
  go_wp2_with fail
  go_loopw [9, 10] (fun i j wr => ∃ lo hi : Nat, lo ≤ pos ∧ pos ≤ hi ∧ hi ≤ l.length ∧ i = .int .i64 lo ∧ j = .int .i64 hi ∧ Below w.heap.size w wr) (fun i j _ => (intOf j).toNat - (intOf i).toNat)
  case atStart => exact ⟨0, l.length, Nat.zero_le _, hpos, Nat.le_refl _, rfl, rfl, Below.refl _ _⟩
  case round =>
    obtain ⟨lo, hi, hlo, hhi, hhl, rfl, rfl, hb⟩ := hrel
    by_cases hlt : lo < hi
    · obtain ⟨d, hd⟩ : ∃ d, l[(lo + hi) / 2]? = some d := ⟨_, List.getElem?_eq_getElem (by omega)⟩
      have HD : Hid (l[(lo + hi) / 2]? = some d) := hd
      obtain ⟨b, o, rfl, u, hid, hkd, hpr, x0, x1, x2⟩ := nod_at (hv.below hb) hd
      obtain ⟨Ar, cr, rfl, _, _⟩ := hpr.form
      have hcall := hp d _ wr hb ⟨_, rfl, hid, hkd, hpr⟩
      clear hpr
      clear hd hp hv
      have hm1 : (lo + hi) / 2 < hi := by omega
      have hm2 : lo ≤ (lo + hi) / 2 := by omega
      by_cases hc : c d < 0
      · have hmp : (lo + hi) / 2 < pos := by
          rcases Nat.lt_or_ge ((lo + hi) / 2) pos with h | h
          · exact h
          · have := P2.out _ _ h HD.out; omega
        go_wp2_with (go_at_fn g; refine hcall.mono ?_; rintro e w' ⟨rfl, hb2⟩)
        go_roundw
        case rel => exact ⟨(lo + hi) / 2 + 1, hi, by omega, hhi, hhl, by go_num, rfl, hb.trans (hb2.mono hb.size)⟩
        case measure => simp [intOf]; omega
      · have hmp : pos ≤ (lo + hi) / 2 := by
          rcases Nat.lt_or_ge ((lo + hi) / 2) pos with h | h
          · have := P1.out _ _ h HD.out; omega
          · exact h
        have hc' : 0 ≤ c d := by omega
        go_wp2_with (go_at_fn g; refine hcall.mono ?_; rintro e w' ⟨rfl, hb2⟩)
        go_roundw
        case rel => exact ⟨lo, (lo + hi) / 2, hlo, by omega, by omega, rfl, by go_num, hb.trans (hb2.mono hb.size)⟩
        case measure => simp [intOf]; omega
    · obtain rfl : lo = hi := by omega
      obtain rfl : lo = pos := by omega
      by_cases hl : lo < l.length
      · obtain ⟨d, hd⟩ : ∃ d, l[lo]? = some d := ⟨_, List.getElem?_eq_getElem hl⟩
        have HE : Hid (eqAt c l lo = (c d == 0)) := by unfold eqAt; rw [hd]; rfl
        have hl' : (lo : Int) < (l.length : Int) := by omega
        have hl2 : decide ((lo : Int) < (l.length : Int)) = true := by simpa using hl
        obtain ⟨b, o, rfl, u, hid, hkd, hpr, x0, x1, x2⟩ := nod_at (hv.below hb) hd
        obtain ⟨Ar, cr, rfl, _, _⟩ := hpr.form
        have hcall := hp d _ wr hb ⟨_, rfl, hid, hkd, hpr⟩
        clear hpr
        clear hd hp hv
        go_wp2_with (go_at_fn g; refine hcall.mono ?_; rintro e w' ⟨rfl, hb2⟩)
        go_ret2
        exact ⟨by rw [HE.out]; rfl, hb.trans (hb2.mono hb.size)⟩
      · have HE : Hid (eqAt c l lo = false) := by unfold eqAt; rw [List.getElem?_eq_none (by omega)]; rfl
        have hl2 : decide ((lo : Int) < (l.length : Int)) = false := by simp; omega
        have hl3 : (l.length : Int) ≤ (lo : Int) := by omega
        clear hp hv
        go_wp2_with fail
        go_ret2
        exact ⟨by rw [HE.out]; rfl, hb⟩
set_option maxHeartbeats 2000000 in
theorem bs_prp (g : Nat) (caps : Array Value) (eg : ∀ args w, (callFunc g args).run Tryz.prog w = .ok (.enter g args) w) (tv : Value) (c : Prp → Int) (l : List Prp) (v : Value) (w : World) (hv : Sl prpL w v l)
    (hp : CmpB Tryz.prog g caps prpV tv c w) (pos : Nat) (hlen : l.length ≤ 1000) (hpos : pos ≤ l.length) (h1 : ∀ i d, i < pos → l[i]? = some d → c d < 0) (h2 : ∀ i d, pos ≤ i → l[i]? = some d → 0 ≤ c d) :
    Calls Tryz.prog 145 #[v, tv, .func (.func g) #[] caps] w fun e w' => e = .returned (.tuple #[.int .i64 pos, .bool (eqAt c l pos)]) ∧ Below w.heap.size w w' := by
  obtain ⟨A, cp, rfl, hlc, hcm⟩ := hv.form
  have hcm' : l.length ≤ 9223372036854775807 := by unfold maxLen at hcm; omega
  clear hcm hlc hcm'
  have P1 := Lib.hid h1
  have P2 := Lib.hid h2
  clear h1 h2
  go_enter Tryz.func145, Tryz.ntmps145
  go_wp2_with fail
  go_loopw [9, 10] (fun i j wr => ∃ lo hi : Nat, lo ≤ pos ∧ pos ≤ hi ∧ hi ≤ l.length ∧ i = .int .i64 lo ∧ j = .int .i64 hi ∧ Below w.heap.size w wr) (fun i j _ => (intOf j).toNat - (intOf i).toNat)
  case atStart => exact ⟨0, l.length, Nat.zero_le _, hpos, Nat.le_refl _, rfl, rfl, Below.refl _ _⟩
  case round =>
    obtain ⟨lo, hi, hlo, hhi, hhl, rfl, rfl, hb⟩ := hrel
    by_cases hlt : lo < hi
    · obtain ⟨d, hd⟩ : ∃ d, l[(lo + hi) / 2]? = some d := ⟨_, List.getElem?_eq_getElem (by omega)⟩
      have HD : Hid (l[(lo + hi) / 2]? = some d) := hd
      obtain ⟨b, o, rfl, hok, x0, x1, x2, x3⟩ := prp_at (hv.below hb) hd
      have hcall := hp d _ wr hb ⟨rfl, hok⟩
      clear hd hp hv
      have hm1 : (lo + hi) / 2 < hi := by omega
      have hm2 : lo ≤ (lo + hi) / 2 := by omega
      by_cases hc : c d < 0
      · have hmp : (lo + hi) / 2 < pos := by
          rcases Nat.lt_or_ge ((lo + hi) / 2) pos with h | h
          · exact h
          · have := P2.out _ _ h HD.out; omega
        go_wp2_with (go_at_fn g; refine hcall.mono ?_; rintro e w' ⟨rfl, hb2⟩)
        go_roundw
        case rel => exact ⟨(lo + hi) / 2 + 1, hi, by omega, hhi, hhl, by go_num, rfl, hb.trans (hb2.mono hb.size)⟩
        case measure => simp [intOf]; omega
      · have hmp : pos ≤ (lo + hi) / 2 := by
          rcases Nat.lt_or_ge ((lo + hi) / 2) pos with h | h
          · have := P1.out _ _ h HD.out; omega
          · exact h
        have hc' : 0 ≤ c d := by omega
        go_wp2_with (go_at_fn g; refine hcall.mono ?_; rintro e w' ⟨rfl, hb2⟩)
        go_roundw
        case rel => exact ⟨lo, (lo + hi) / 2, hlo, by omega, by omega, rfl, by go_num, hb.trans (hb2.mono hb.size)⟩
        case measure => simp [intOf]; omega
    · obtain rfl : lo = hi := by omega
      obtain rfl : lo = pos := by omega
      by_cases hl : lo < l.length
      · obtain ⟨d, hd⟩ : ∃ d, l[lo]? = some d := ⟨_, List.getElem?_eq_getElem hl⟩
        have HE : Hid (eqAt c l lo = (c d == 0)) := by unfold eqAt; rw [hd]; rfl
        have hl' : (lo : Int) < (l.length : Int) := by omega
        have hl2 : decide ((lo : Int) < (l.length : Int)) = true := by simpa using hl
        obtain ⟨b, o, rfl, hok, x0, x1, x2, x3⟩ := prp_at (hv.below hb) hd
        have hcall := hp d _ wr hb ⟨rfl, hok⟩
        clear hd hp hv
        go_wp2_with (go_at_fn g; refine hcall.mono ?_; rintro e w' ⟨rfl, hb2⟩)
        go_ret2
        exact ⟨by rw [HE.out]; rfl, hb.trans (hb2.mono hb.size)⟩
      · have HE : Hid (eqAt c l lo = false) := by unfold eqAt; rw [List.getElem?_eq_none (by omega)]; rfl
        have hl2 : decide ((lo : Int) < (l.length : Int)) = false := by simp; omega
        have hl3 : (l.length : Int) ≤ (lo : Int) := by omega
        clear hp hv
        go_wp2_with fail
        go_ret2
        exact ⟨by rw [HE.out]; rfl, hb⟩
end Go.Proofs.YtngbbefpphinjaaGreatDoor
