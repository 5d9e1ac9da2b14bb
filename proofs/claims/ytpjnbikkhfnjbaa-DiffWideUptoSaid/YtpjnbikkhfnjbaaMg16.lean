/- Parts: Chk2, KinK, Qg, Chk3, Mk. -/
import Derived.Test.YtpjnbikkhfnjbaaMg15
import Derived.Test.YtpjnbikkhfnjbaaMg03
import Derived.Test.YtpjnbikkhfnjbaaMg04
import Derived.Test.YtpjnbikkhfnjbaaMg06
import Derived.Test.YtpjnbikkhfnjbaaMg10
import Derived.Test.YtpjnbikkhfnjbaaMg07
import Derived.Deep.RegionHeld3
import Derived.Test.YtpjnbikkhfnjbaaMg11
import Derived.Test.YtpjnbikkhfnjbaaMg09
import Derived.MapKept
/- Contract: a checker and a node by itself. No condition. -/
namespace Go.Proofs.Ytpjnbikkhfnjbaa
open Go Go.RowKit


/-- The fields of a node's kind; none, where there is no such kind. -/
def kfl (s : Scm) (nm : ByteArray) : List Fld := if kFind s.kinds nm < 0 then [] else (fieldsOf s.kinds nm).getD []
def aloneF (s : Scm) (n : Nod) : List Flt := if kFind s.kinds n.kind < 0 then [⟨1, n.id, n.kind⟩] else recF (kfl s n.kind) n
/-- What a checker needs of its data. -/
structure CkOk (s : Scm) : Prop where
  l : s.kinds.length ≤ 12
  o : ∀ k ∈ s.kinds, k.ofs.length ≤ 64
  f : ∀ k ∈ s.kinds, k.fields.length ≤ 8
def AloneR (B bc : Nat) (vk vb vn vt mv : Value) (fs : List Flt) (s : Scm) (n : Nod) (w : World) (e : Ending) (w' : World) : Prop :=
  ∃ v, e = .returned (.tuple #[v, .bool (decide (0 ≤ kFind s.kinds n.kind))]) ∧ Own w' B 31 4 v (kfl s n.kind).length ((kfl s n.kind).flatMap Fld.enc) ∧ (∀ x ∈ kfl s n.kind, x.ok) ∧ Told1 B w w' bc vk vb vn vt mv (fs ++ aloneF s n)
set_option maxRecDepth 100000 in
set_option maxHeartbeats 8000000 in
theorem alone_any (B bc : Nat) (vk vb vn vt mv out : Value) (fs : List Flt) (s : Scm) (n : Nod) (u : Value) (W1 w : World) (hBW : B = W1.heap.size) (hW : Below W1.heap.size W1 w) (hC : Ck B w bc vk vb vn vt mv out fs)
    (hs : ScmR W1 vk vb s) (hok : CkOk s) (hu : Sl prpL W1 u n.props) (hid : I64 n.id) (hkd : Sm n.kind) (hch : chain prpLt n.props = true) (hpl : n.props.length ≤ 1000) (hfl : (kfl s n.kind).length ≤ 1000) (hl : fs.length ≤ 90000) :
    Calls Try.prog 39 #[.pointer (some ⟨bc, 0, none⟩), .agg #[.int .i64 n.id, .string n.kind, u]] w (AloneR B bc vk vb vn vt mv fs s n w) := by
  obtain ⟨Au, cu, rfl, _, _⟩ := hu.form
  obtain ⟨Ak, ck, rfl, _, _⟩ := hs.1.form
  obtain ⟨Ab, cb, rfl, _, _⟩ := hs.2.form
  have hb0 : Below w.heap.size w (w.alloc (.cells #[.int .i64 n.id, .string n.kind, .slice Au n.props.length cu] 76)) := (Below.refl _ _).alloc (Nat.le_refl _) _
  have g0 := heap_alloc_new w (.cells #[.int .i64 n.id, .string n.kind, .slice Au n.props.length cu] 76)
  generalize hW0 : w.alloc (.cells #[.int .i64 n.id, .string n.kind, .slice Au n.props.length cu] 76) = W0 at *
  have hwB : B ≤ w.heap.size := by rw [hBW]; exact hW.size
  have hw0 := hb0.size
  have hW01 : Below W1.heap.size W1 W0 := hW.trans (hb0.mono hW.size)
  have hC0 := hC.below hb0
  have y0 := block_cell hC0.q 0
  have x0 := block_cell g0 0
  have x1 := block_cell g0 1
  have x2 := block_cell g0 2
  have HC0 := Lib.hid hC0
  have HG0 := Lib.hid g0
  have HS := Lib.hid hs
  have HU := Lib.hid hu
  have HK : Hid (∀ W, Below W1.heap.size W1 W → Calls Try.prog 7 #[.slice Ak s.kinds.length ck, .string n.kind] W fun e w' => e = .returned (.int .i64 (kFind s.kinds n.kind)) ∧ Below W.heap.size W w') := fun W h => kFind_any s.kinds n.kind _ W (HS.out.below h).1
  have HFO : Hid (∀ W, Below W1.heap.size W1 W → Calls Try.prog 50 #[.slice Ak s.kinds.length ck, .string n.kind] W (FieldsO s.kinds n.kind W)) := fun W h => fieldsOfO_any s.kinds n.kind _ W (HS.out.below h).1 hkd (by have := hok.l; omega) hok.o hok.f
  have HAF : Hid (aloneF s n = if kFind s.kinds n.kind < 0 then [⟨1, n.id, n.kind⟩] else recF (kfl s n.kind) n) := rfl
  have HKF : Hid (kfl s n.kind = if kFind s.kinds n.kind < 0 then [] else (fieldsOf s.kinds n.kind).getD []) := rfl
  have hT0 : Told1 B w W0 bc (.slice Ak s.kinds.length ck) (.slice Ab s.bonds.length cb) vn vt mv fs := Told1.first hb0 hwB ⟨⟨_, hC0⟩, Below.refl _ _, fun _ _ _ => Same.refl _ _, fun _ _ _ h => h, Nat.le_refl _⟩
  have HT0 := Lib.hid hT0
  have HKD := Lib.hid hkd
  generalize hkf : kFind s.kinds n.kind = z at *
  have HKZ := Lib.hid hkf
  have HBW := Lib.hid hBW
  clear hC hs hu hC0 g0 hok hT0 hkd hkf hBW
  go_enter Try.func39, Try.ntmps39
  go_wp2_with fail
  clear hW0
  refine wp_mid_k 7 _ rfl rfl (by kernel_rfl) (by kernel_rfl) ?_
  simp only [List.take_succ_cons, List.take_zero, List.drop_succ_cons, List.drop_zero]
  repeat (go_big_quiet_step (fail))
  refine wpQuiet_nil ?_
  intro _ hw'
  obtain ⟨nq, hw''⟩ := hw'
  subst hw''
  intro K hK
  have hk1 := HK.out (W0.drewN nq) (hW01.trans (below_drewN (Below.refl _ _) nq))
  go_wp2_with fail
  refine hk1.mono ?_
  clear hk1
  rintro e w2 ⟨rfl, hb2⟩
  have hb02 := (below_drewN (Below.refl W0.heap.size W0) nq).trans hb2
  refine hK _ _ ?_
  repeat (go_big_quiet_step (fail))
  refine wpQuiet_nil ?_
  intro _ hw'
  obtain ⟨nq2, hw''⟩ := hw'
  subst hw''
  clear hK
  have hbW := below_drewN hb02 nq2
  generalize w2.drewN nq2 = W2 at *
  have hB2 : B ≤ W2.heap.size := by have := hbW.size; omega
  have hW12 : Below W1.heap.size W1 W2 := hW01.trans (hbW.mono hW01.size)
  have hB0 : B ≤ W0.heap.size := by omega
  have HT2 := Lib.hid (HT0.out.last hB0 hbW)
  have HC2 := Lib.hid (HC0.out.below hbW)
  have hg2 := (hbW.block _ (Array.getElem?_eq_some_iff.1 HG0.out).1).trans HG0.out
  have y0 := block_cell HC2.out.q 0
  have x0 := block_cell hg2 0
  have x1 := block_cell hg2 1
  have x2 := block_cell hg2 2
  have HG2 := Lib.hid hg2
  clear hb2 hb02 hbW HT0 HC0 HG0 hg2 HK hW01
  by_cases hz : z < 0
  · have hz' : decide (z < 0) = true := decide_eq_true hz
    have HA : Hid (aloneF s n = [⟨1, n.id, n.kind⟩] ∧ kfl s n.kind = []) := ⟨by rw [HAF.out, if_pos hz], by rw [HKF.out, if_pos hz]⟩
    have htell := tell_any B bc _ _ vn vt mv out fs ⟨1, n.id, n.kind⟩ W2 hB2 HC2.out ⟨⟨by show (-9223372036854775808 : Int) ≤ 1; omega, by show (1 : Int) ≤ 9223372036854775807; omega⟩, hid, HKD.out⟩ (by omega)
    have HZ : Hid (decide (0 ≤ kFind s.kinds n.kind) = false) := by unfold Hid; rw [HKZ.out]; exact decide_eq_false (by omega)
    clear HAF HKF HC2 HFO
    go_wp2_with fail
    refine htell.mono ?_
    clear htell
    rintro e w5 ⟨rfl, ht5⟩
    have HT5 := Lib.hid (HT2.out.trans ht5)
    clear ht5
    go_wp2_with fail
    go_ret2
    exact ⟨.slice none 0 0, by rw [HZ.out]; rfl, by rw [HA.out.2]; exact Own.nil _ _ _ _, by rw [HA.out.2]; exact (fun x hx => by cases hx), by rw [HA.out.1]; exact HT5.out⟩
  · have hz' : decide (z < 0) = false := decide_eq_false hz
    have HA : Hid (aloneF s n = recF (kfl s n.kind) n ∧ kfl s n.kind = (fieldsOf s.kinds n.kind).getD []) := ⟨by rw [HAF.out, if_neg hz], by rw [HKF.out, if_neg hz]⟩
    have HZ : Hid (decide (0 ≤ kFind s.kinds n.kind) = true) := by unfold Hid; rw [HKZ.out]; exact decide_eq_true (by omega)
    have hz2 : (0 : Int) ≤ z := by omega
    clear HAF HKF hz
    go_wp2_with fail
    refine wp_mid_k 7 _ rfl rfl (by kernel_rfl) (by kernel_rfl) ?_
    simp only [List.take_succ_cons, List.take_zero, List.drop_succ_cons, List.drop_zero]
    repeat (go_big_quiet_step (fail))
    refine wpQuiet_nil ?_
    intro _ hw'
    obtain ⟨nq, hw''⟩ := hw'
    subst hw''
    intro K hK
    have hf1 := HFO.out (W2.drewN nq) (hW12.trans (below_drewN (Below.refl _ _) nq))
    generalize (fieldsOf s.kinds n.kind).isSome = iss at *
    go_wp2_with fail
    refine hf1.mono ?_
    clear hf1 HFO
    rintro e w3 ⟨v3, rfl, ⟨ho3, hok3⟩, hb3⟩
    rw [← HA.out.2] at ho3 hok3
    have ho3 := ho3.mono (B' := B) hB2
    obtain ⟨A3, c3, rfl, _, _⟩ := ho3.form
    have hb23 := (below_drewN (Below.refl W2.heap.size W2) nq).trans hb3
    refine hK _ _ ?_
    repeat (go_big_quiet_step (fail))
    refine wpQuiet_nil ?_
    intro _ hw'
    obtain ⟨nq2, hw''⟩ := hw'
    subst hw''
    clear hK
    have hbX := below_drewN hb23 nq2
    have ho4 := ho3.drewN nq2
    generalize w3.drewN nq2 = W3 at *
    have hB3 : B ≤ W3.heap.size := by have := hbX.size; omega
    have hW13 : Below W1.heap.size W1 W3 := hW12.trans (hbX.mono hW12.size)
    have HT3 := Lib.hid (HT2.out.last hB2 hbX)
    have hc3 := HC2.out.below hbX
    have hg3 := (hbX.block _ (Array.getElem?_eq_some_iff.1 HG2.out).1).trans HG2.out
    have x0 := block_cell hg3 0
    have x1 := block_cell hg3 1
    have x2 := block_cell hg3 2
    have hrec := record_any B bc _ _ vn vt mv out fs n (kfl s n.kind) _ _ W1 W3 HBW.out hW13 hc3 HU.out hid hch hpl ho4 hok3 hfl hl
    have HO4 := Lib.hid ho4
    have HOK := Lib.hid hok3
    generalize hfl0 : kfl s n.kind = fl at *
    have HFL := Lib.hid hfl0.symm
    clear hfl0
    clear hb3 hb23 hbX ho3 hok3 ho4 hc3 hg3 y0 HC2 HG2 HT2
    go_wp2_with fail
    refine hrec.mono ?_
    clear hrec
    rintro e w5 ⟨rfl, ht5⟩
    have HT5 := Lib.hid (HT3.out.trans ht5)
    have HO5 := Lib.hid (HO4.out.same (ht5.s 31 (by decide) (by decide)))
    clear ht5
    go_wp2_with fail
    go_ret2
    exact ⟨.slice A3 fl.length c3, by rw [HZ.out]; rfl, by rw [← HFL.out]; exact HO5.out, by rw [← HFL.out]; exact HOK.out, by rw [HA.out.1]; exact HT5.out⟩
end Go.Proofs.Ytpjnbikkhfnjbaa

/- Contracts: kind.ready, kind.Kin, kind.IsKin, kind.Is, kind.Fields. -/
namespace Go.Proofs.Ytpjnbikkhfnjbaa
open Go Go.RowKit

/-- A list and an error. -/
def RetL {D : Type} (L : Lay D) (l : List D) (err : Int) (w : World) (e : Ending) (w' : World) : Prop := ∃ v, e = .returned (.tuple #[v, errV err]) ∧ Sl L w' v l ∧ Below w.heap.size w w'

def strV (_ : World) (d : ByteArray) (u : Value) : Prop := u = .string d ∧ Sm d
def readyE (l : List Knd) (names : List ByteArray) : Int := if (checkE l).2 = 0 then (if names.any (fun s => decide (kFind l s < 0)) then 5 else 0) else (checkE l).2
theorem readyE_zero {l : List Knd} {names : List ByteArray} (h : readyE l names = 0) : Right l ∧ ∀ s ∈ names, 0 ≤ kFind l s := by
  unfold readyE at h
  split at h
  · rename_i h0
    split at h
    · omega
    · rename_i h1
      refine ⟨checkE_zero h0, fun s hs => ?_⟩
      rcases Int.lt_or_le (kFind l s) 0 with h2 | h2
      · exact absurd (List.any_eq_true.2 ⟨s, hs, decide_eq_true h2⟩) h1
      · exact h2
  · rename_i h0; exact absurd h h0
def isKinB (l : List Knd) (a b : ByteArray) : Bool := (kinL l a).any fun y => decide (b = y)
theorem isKin_any (l : List Knd) (a b : ByteArray) (v : Value) (w : World) (hv : Sl kndL w v l) (ha : Sm a) (hll : l.length ≤ 64) (hofs : ∀ k ∈ l, k.ofs.length ≤ 64) :
    Calls Try.prog 41 #[v, .string a, .string b] w fun e w' => e = .returned (.bool (isKinB l a b)) ∧ Below w.heap.size w w' := by
  have h1 := kinOf_any l a v w hv ha hll hofs
  obtain ⟨A, c, rfl, _, _⟩ := hv.form
  clear hv hofs
  go_enter Try.func41, Try.ntmps41
  go_wp2_with fail
  refine h1.mono ?_
  clear h1
  rintro e w1 ⟨u, rfl, hu, hb1⟩
  have h2 := containsStr_any (kinL l a) b u w1 hu
  obtain ⟨A1, c1, rfl, _, _⟩ := hu.form
  clear hu
  go_wp2_with fail
  refine h2.mono ?_
  clear h2
  rintro e w2 ⟨rfl, rfl⟩
  have HB : Hid (((kinL l a).any fun y => decide (b = y)) = isKinB l a b) := rfl
  generalize ((kinL l a).any fun y => decide (b = y)) = q at *
  go_wp2_with fail
  go_ret
  exact ⟨ret_bool HB.out, hb1⟩

def kinR (l : List Knd) (name : ByteArray) : List ByteArray := if readyE l [name] = 0 then kinL l name else []
def fieldsR (l : List Knd) (name : ByteArray) : List Fld := if readyE l [name] = 0 then (fieldsOf l name).getD [] else []
def isR (l : List Knd) (a b : ByteArray) : Bool := if readyE l [a, b] = 0 then isKinB l a b else false
end Go.Proofs.Ytpjnbikkhfnjbaa

/- As Qm: the operation in the middle may be guarded; its guard lets it be done. Conditions: the Bool on the region. -/
namespace Go.Proofs.Ytpjnbikkhfnjbaa
open Go Go.RowKit Go.Sort
section
variable {P : Program} {ops : Array Oper} {md : Region.Mode} {C : World → Prop}
theorem wp_region_midg {id : Nat} {Q : Exit → Act → World → Prop} {a : Act} {w : World} {l : List Oper} (n : Nat) (om : Oper) (hom : l[n]? = some om) (hm : P.follows .mixedOrders = true) (hB : midB .any l.toArray n = true)
    (hC : C { w with drawn := w.drawn + 1 })
    (h : wpQuiet P l.toArray C (fun a' => Region.wanted om (yielded l.toArray a'.tmps) = true ∧ ∀ w', C w' → om.wp P a' w' (fun a2 w2 => wpQuiet P l.toArray (fun x => ∃ n, x = w2.drewN n) (fun a3 => ∀ w3, (∃ n, w3 = w2.drewN n) → Q .normal a3 w3) (l.drop (n + 1)) a2) Q) (l.take n) a) : (Code.region id l.toArray true).wp P Q a w := by
  simp only [midB, Bool.and_eq_true, decide_eq_true_eq] at hB
  obtain ⟨⟨⟨⟨hsel, hn⟩, hs⟩, hc⟩, hlex⟩ := hB
  have hn' : n < l.length := by simpa using hn
  have htl : (l.take n).length = n := by simp; omega
  have hdl : (l.drop (n + 1)).length = l.toArray.size - n - 1 := by simp; omega
  have inv0 : HeadInv .any l.toArray n (Array.replicate l.toArray.size false) :=
    ⟨by simp, fun j oj _ hl => (by rw [getD_replicate_false] at hl; cases hl), fun t _ ht => getD_in (by simpa using ht) (getD_replicate_false _ _)⟩
  have H := wpAnyLQ_lex2 (C := C) (md := .any) (g := l.toArray.size - n - 1) hsel hs hc hn (l.take n) 0 _ a (fun j hj => by
    have hj' : j < n := by rw [htl] at hj; exact hj
    simp [hj']) (by simpa using htl) inv0 (by rw [htl]; exact hlex) h
  refine wp_region_any hm ?_
  have key := wpAny_of_headQ (C := C) (Q' := Q) (g := l.toArray.size - n - 1 + 1) (fun listed a' w' hw' hL => by
    have h1 := hL.1
    simp only [midRest, Bool.and_eq_true, decide_eq_true_eq] at h1
    refine ⟨fun h0 => (by rw [h1.1] at h0; cases h0), fun i hi => ?_⟩
    rw [h1.1] at hi
    obtain rfl : i = n := by simpa using hi
    have h0 : l.toArray[i]? = some om := by simpa using hom
    unfold wpOp
    simp only [h0]
    have hw := hL.2.1
    simp only [hw, if_true]
    refine .inl ?_
    have h2 := hL.2.2 w' hw'
    unfold Oper.wp at h2 ⊢
    generalize (execOp a'.eval om).run P w' = r at h2 ⊢
    have step : ∀ a2 w2, wpQuiet P l.toArray (fun x => ∃ n, x = w2.drewN n) (fun a3 => ∀ w3, (∃ n, w3 = w2.drewN n) → Q .normal a3 w3) (l.drop (i + 1)) a2 →
        wpAny P .any l.toArray Q (l.toArray.size - i - 1) (listed.setIfInBounds i true) a2 w2 := fun a2 w2 hq => by
      have h3 := wpAnyQ_lex (C := fun x => ∃ n, x = w2.drewN n) (md := .any) hsel (l.drop (i + 1)) (i + 1) (listed.setIfInBounds i true) a2 (fun j => by simp [List.getElem?_drop]) (by rw [hdl]; exact h1.2) hq
      rw [hdl] at h3
      exact wpAny_of_quiet (Q := fun a3 => ∀ w3, (∃ n, w3 = w2.drewN n) → Q .normal a3 w3) (fun _ w3 hw3 h => h w3 hw3) _ _ _ _ ⟨0, rfl⟩ h3
    cases r with
    | ok nx w2 =>
      cases nx <;> simp only [Oper.upon] at h2 ⊢
      case value v => exact step _ _ h2
      case skip => exact step _ _ h2
      case defer d => exact step _ _ h2
      case enter f args =>
        refine h2.mono fun e w3 h3 => ?_
        cases e with
        | returned v => exact step _ _ h3
        | panicked c => exact h3
        | outgrown => exact h3
      case row r args => exact h2.mono fun v w3 h3 => step _ _ h3
      all_goals first | exact h2.elim | exact h2
    | halt hh w2 =>
      cases hh <;> simp only [Oper.upon] at h2 ⊢
      all_goals first | exact h2 | exact h2.elim) _ _ _ _ hC H
  rw [htl, show n + (l.toArray.size - n - 1 + 1) = l.toArray.size by simp only [List.size_toArray]; omega] at key
  exact key

theorem wp_mid_g {id : Nat} {Q : Exit → Act → World → Prop} {a : Act} {w : World} {l : List Oper} (n : Nat) (om : Oper) (hom : l[n]? = some om) (hm : P.follows .mixedOrders = true) (hB : midB .any l.toArray n = true)
    (h : wpQuiet P l.toArray (fun w' => ∃ n, w' = w.drewN n) (fun a' => Region.wanted om (yielded l.toArray a'.tmps) = true ∧ ∀ w', (∃ n, w' = w.drewN n) → ∀ K : Act → World → Prop, (∀ a2 w2, wpQuiet P l.toArray (fun x => ∃ n, x = w2.drewN n) (fun a3 => ∀ w3, (∃ n, w3 = w2.drewN n) → Q .normal a3 w3) (l.drop (n + 1)) a2 → K a2 w2) → om.wp P a' w' K Q) (l.take n) a) : (Code.region id l.toArray true).wp P Q a w :=
  wp_region_midg (C := fun w' => ∃ n, w' = w.drewN n) n om hom hm hB ⟨1, rfl⟩ (wpQuiet_mono (fun _ h => ⟨h.1, fun w' hw' => h.2 w' hw' _ fun _ _ h => h⟩) _ _ h)
end
end Go.Proofs.Ytpjnbikkhfnjbaa

/- Contract: whether an end of a tie is one. No condition. -/
namespace Go.Proofs.Ytpjnbikkhfnjbaa
open Go Go.RowKit


def endB (s : Scm) (g : Grf) (id : Int) (asked : ByteArray) : Bool := match g.nodes[fpos g.nodes id]? with | some n => fhas g.nodes id && decide (0 ≤ kFind s.kinds n.kind) && isKinB s.kinds n.kind asked | none => false
set_option maxRecDepth 100000 in
set_option maxHeartbeats 8000000 in
theorem end_any (B bc : Nat) (vk vb vn vt mv out : Value) (fs : List Flt) (s : Scm) (g : Grf) (id : Int) (asked : ByteArray) (W1 w : World) (hW : Below W1.heap.size W1 w) (hC : Ck B w bc vk vb vn vt mv out fs)
    (hs : ScmR W1 vk vb s) (hok : CkOk s) (hg : GrfR W1 vn vt g) (hch : chain nodLt g.nodes = true) (hl : g.nodes.length ≤ 1000) :
    Calls Try.prog 32 #[.pointer (some ⟨bc, 0, none⟩), .int .i64 id, .string asked] w fun e w' => e = .returned (.bool (endB s g id asked)) ∧ Below w.heap.size w w' := by
  obtain ⟨Ak, ck, rfl, _, _⟩ := hs.1.form
  obtain ⟨Ab, cb, rfl, _, _⟩ := hs.2.form
  obtain ⟨An, cn, rfl, _, _⟩ := hg.1.form
  obtain ⟨At, ct, rfl, _, _⟩ := hg.2.form
  have y0 := block_cell hC.q 0
  have y2 := block_cell hC.q 2
  have y3 := block_cell hC.q 3
  have HC := Lib.hid hC
  have HS := Lib.hid hs
  have HG := Lib.hid hg
  have hfd := find_any g _ _ w (hg.below hW) id hch hl
  have HEB : Hid (endB s g id asked = match g.nodes[fpos g.nodes id]? with | some n => fhas g.nodes id && decide (0 ≤ kFind s.kinds n.kind) && isKinB s.kinds n.kind asked | none => false) := rfl
  generalize endB s g id asked = eb at *
  clear hC hs hg
  go_enter Try.func32, Try.ntmps32
  go_wp2_with fail
  refine hfd.mono ?_
  clear hfd
  rintro e w2 ⟨rfl, hb2⟩
  have y0 := cell_below hb2 y0
  have y2 := cell_below hb2 y2
  have y3 := cell_below hb2 y3
  cases hq : fhas g.nodes id with
  | false =>
    have HE : Hid (eb = false) := by unfold Hid; rw [HEB.out]; split <;> simp [hq]
    clear HEB hq
    go_wp2_with fail
    go_quiet (fail)
    go_wp2_with fail
    go_ret
    exact ⟨by rw [HE.out]; rfl, below_drewN hb2 _⟩
  | true =>
    obtain ⟨n, hn⟩ : ∃ n, g.nodes[fpos g.nodes id]? = some n := by
      unfold fhas eqAt at hq
      cases hd : g.nodes[fpos g.nodes id]? with
      | none => rw [hd] at hq; simp at hq
      | some d => exact ⟨d, rfl⟩
    have HE : Hid (eb = (decide (0 ≤ kFind s.kinds n.kind) && isKinB s.kinds n.kind asked)) := by unfold Hid; rw [HEB.out, hn]; simp [hq]
    have hW2 : Below W1.heap.size W1 w2 := hW.trans (hb2.mono hW.size)
    have hil := (List.getElem?_eq_some_iff.1 hn).1
    generalize fpos g.nodes id = i at *
    have hil' : (i : Int) < (g.nodes.length : Int) := by omega
    have hi0 : (0 : Int) ≤ (i : Int) := by omega
    obtain ⟨b, o, rfl, u, hid, hkd, _, x0, x1, x2⟩ := nod_at (HG.out.below hW2).1 hn
    have hbd : Below w2.heap.size w2 w2.drew := (Below.refl _ _).drew
    have HK : Hid (∀ W, Below w2.heap.size w2 W → Calls Try.prog 7 #[.slice Ak s.kinds.length ck, .string n.kind] W fun e w' => e = .returned (.int .i64 (kFind s.kinds n.kind)) ∧ Below W.heap.size W w') := fun W h => kFind_any s.kinds n.kind _ W (HS.out.below (hW2.trans (h.mono hW2.size))).1
    have HI : Hid (∀ W, Below w2.heap.size w2 W → Calls Try.prog 41 #[.slice Ak s.kinds.length ck, .string n.kind, .string asked] W fun e w' => e = .returned (.bool (isKinB s.kinds n.kind asked)) ∧ Below W.heap.size W w') := fun W h =>
      isKin_any s.kinds n.kind asked _ W (HS.out.below (hW2.trans (h.mono hW2.size))).1 hkd (by have := hok.l; omega) hok.o
    have hkeep := And.intro (cell_below hbd y0) (And.intro (cell_below hbd y2) (cell_below hbd x1))
    generalize kFind s.kinds n.kind = z at *
    generalize isKinB s.kinds n.kind asked = ik at *
    have HK0 := HK.out w2.drew hbd
    clear hn hq HEB hid hkd hil x0 x2
    by_cases hz : z < 0
    · have HE2 : Hid (eb = false) := by unfold Hid; rw [HE.out, decide_eq_false (by omega)]; rfl
      have hz1 : decide ((0 : Int) ≤ z) = false := decide_eq_false (by omega)
      go_wp2_with fail
      refine wp_mid_g 16 _ rfl rfl (by kernel_rfl) ?_
      simp only [List.take_succ_cons, List.take_zero, List.drop_succ_cons, List.drop_zero]
      repeat (go_big_quiet_step (fail))
      refine wpQuiet_nil ?_
      refine ⟨by simp [Region.wanted, yielded, go_sem], ?_⟩
      intro _ hw'
      obtain ⟨nq, hw''⟩ := hw'
      subst hw''
      intro K hK
      have hk1 := HK.out (w2.drewN nq) (below_drewN (Below.refl _ _) nq)
      go_wp2_with fail
      refine hk1.mono ?_
      clear hk1
      rintro e w3 ⟨rfl, hb3⟩
      have hb23 := (below_drewN (Below.refl w2.heap.size w2) nq).trans hb3
      refine hK _ _ ?_
      repeat (go_big_quiet_step (fail))
      refine wpQuiet_nil ?_
      intro _ hw'
      obtain ⟨nq2, hw''⟩ := hw'
      subst hw''
      clear hK
      have hbX := below_drewN hb23 nq2
      generalize w3.drewN nq2 = W3 at *
      go_wp2_with fail
      go_ret
      exact ⟨by rw [HE2.out]; rfl, hb2.trans (hbX.mono hb2.size)⟩
    · have HE2 : Hid (eb = ik) := by unfold Hid; rw [HE.out, decide_eq_true (by omega)]; rfl
      have hz1 : decide ((0 : Int) ≤ z) = true := decide_eq_true (by omega)
      have hz2 : (0 : Int) ≤ z := by omega
      clear hz
      go_wp2_with fail
      go_region_held3 (fun w' => w'.cell? ⟨bc, 0, none⟩ = some (.slice Ak s.kinds.length ck) ∧ w'.cell? ⟨bc, 2, none⟩ = some (.slice (some ⟨b, o, none⟩) g.nodes.length cn) ∧ w'.cell? ⟨b, o + i * 3 + 1, none⟩ = some (.string n.kind))
        (first
          | exact hkeep
          | go_keep)
        (first
          | (go_at_call 7
             refine HK0.mono ?_
             rintro e w3 ⟨rfl, hb3⟩
             have hb23 := hbd.trans (hb3.mono hbd.size)
             have hkeep := And.intro (cell_below hb23 y0) (And.intro (cell_below hb23 y2) (cell_below hb23 x1))
             have HI0 := HI.out w3 hb23)
          | (go_at_call 41
             refine HI0.mono ?_
             rintro e w4 ⟨rfl, hb4⟩
             have hb24 := hb23.trans (hb4.mono hb23.size)
             have hkeep := And.intro (cell_below hb24 y0) (And.intro (cell_below hb24 y2) (cell_below hb24 x1))))
      all_goals
        go_wp2_with fail
        go_ret
        exact ⟨by rw [HE2.out]; rfl, hb2.trans (hb24.mono hb2.size)⟩
end Go.Proofs.Ytpjnbikkhfnjbaa

/- Plain: a map from the checker's keys (a text and a value) to bools that the call made, as a list of keys. No condition. -/
namespace Go.Proofs.Ytpjnbikkhfnjbaa
open Go Go.RowKit

/-- A key: the field's name, and the value. -/
structure Key where
  f : ByteArray
  v : Val
  deriving DecidableEq
def Key.ag (k : Key) : Value := .agg #[.string k.f, .int .i64 k.v.ty, .int .i64 k.v.n, .string k.v.s]
theorem kval_same (d : Nat) (x y : Val) (w : World) : (Op.equalIn (d + 2) 94 (.agg #[.int .i64 x.ty, .int .i64 x.n, .string x.s]) (.agg #[.int .i64 y.ty, .int .i64 y.n, .string y.s])).run Try.prog w = .ok (decide (x = y)) w := by
  have hS : Try.prog.underlying 94 = some (.struct (Try.prog.fieldsOf 94)) := by kernel_rfl
  have hp : Try.prog.stoodInHeld 94 = false := by kernel_rfl
  have e1 := Try.underlying9
  have e2 := Try.underlying3
  rw [run_equalIn_agg w (d + 1) 94 _ _ hS hp]
  simp only [Program.fieldsOf, Try.underlying94]
  go_simp
  simp only [bytes_eq]
  cases x; cases y
  simp only [Val.mk.injEq]
  rename_i a b c a' b' c'
  by_cases h1 : a = a' <;> by_cases h2 : b = b' <;> by_cases h3 : c = c' <;> simp [h1, h2, h3]
set_option maxRecDepth 100000 in
theorem key_same (d : Nat) (x y : Key) (w : World) : (Op.equalIn (d + 3) 98 x.ag y.ag).run Try.prog w = .ok (decide (x = y)) w := by
  have hS : Try.prog.underlying 98 = some (.struct (Try.prog.fieldsOf 98)) := by kernel_rfl
  have hp : Try.prog.stoodInHeld 98 = false := by kernel_rfl
  have hv := kval_same d x.v y.v w
  have e1 := Try.underlying9
  have e2 := Try.underlying3
  have e3 := Try.underlying94
  have HV := Lib.hid hv
  clear hv
  unfold Key.ag
  rw [run_equalIn_agg w (d + 2) 98 _ _ hS hp]
  simp only [Program.fieldsOf, Try.underlying98]
  clear hS hp
  go_simp
  clear HV
  simp only [bytes_eq]
  cases x with | mk f v => cases y with | mk f' v' =>
  cases v; cases v'
  simp only [Key.mk.injEq, Val.mk.injEq]
  rename_i a b c a' b' c'
  by_cases h0 : f = f' <;> by_cases h1 : a = a' <;> by_cases h2 : b = b' <;> by_cases h3 : c = c' <;> simp [h0, h1, h2, h3]
theorem key_check (e : Bool) (x : Key) (w : World) : (Instr.checkKey e 10000 98 x.ag).run Try.prog w = .ok () w := by
  unfold Key.ag
  kernel_rfl
theorem key_bits (x : Key) : Instr.sameBits 10000 x.ag x.ag = true := by
  have h : ∀ a : ByteArray, (a == a) = true := fun a => by cases a; exact beq_self_eq_true (α := Array UInt8) _
  unfold Key.ag
  simp [Instr.sameBits, h]
/-- What an entry says. -/
def kvs (es : List MapEntry) : List (Value × Value) := es.map fun e => (e.key, e.val)
def keyKV (S : List Key) : List (Value × Value) := S.map fun k => (k.ag, .bool true)
/-- Block b is a map: the keys S, each with true. -/
def MapK (w : World) (b : Nat) (S : List Key) : Prop := ∃ es clock, w.heap[b]? = some (.map es clock) ∧ kvs es.toList = keyKV S
theorem MapK.made (w : World) : MapK (w.alloc (.map #[] 0)) w.heap.size [] := ⟨#[], 0, heap_alloc_new _ _, rfl⟩
theorem MapK.keep {w w' : World} {b : Nat} {S : List Key} (h : MapK w b S) (hk : ∀ m c, w.heap[b]? = some (.map m c) → w'.heap[b]? = some (.map m c)) : MapK w' b S := by
  obtain ⟨es, c, h1, h2⟩ := h
  exact ⟨es, c, hk _ _ h1, h2⟩
theorem key_find (k : Key) (w : World) : ∀ (es : List MapEntry) (S : List Key) (i : Nat), kvs es = keyKV S →
    (Instr.findAsking 98 k.ag es i).run Try.prog w = .ok (if k ∈ S then some (i + S.findIdx (fun x => decide (k = x)), .bool true) else none) w
  | [], S, i, h => by
    cases S with
    | nil => rfl
    | cons a S => simp [kvs, keyKV] at h
  | e :: es, S, i, h => by
    cases S with
    | nil => simp [kvs, keyKV] at h
    | cons a S =>
      simp only [kvs, keyKV, List.map_cons, List.cons.injEq, Prod.mk.injEq] at h
      obtain ⟨⟨hk, hv⟩, ht⟩ := h
      have ih := key_find k w es S (i + 1) ht
      have he : (Op.equal 98 k.ag a.ag).run Try.prog w = .ok (decide (k = a)) w := key_same 9997 k a w
      by_cases hq : k = a
      · subst hq
        rw [decide_eq_true rfl] at he
        unfold Instr.findAsking
        rw [Sem.run_bind, hk, he, if_pos (List.mem_cons_self ..)]
        simp [Result.andThen, hv, List.findIdx_cons]
      · rw [decide_eq_false hq] at he
        have hidx : (a :: S).findIdx (fun x => decide (k = x)) = S.findIdx (fun x => decide (k = x)) + 1 := by rw [List.findIdx_cons]; simp [hq]
        have hmem : (k ∈ a :: S) = (k ∈ S) := by simp [hq]
        have harr : i + 1 + S.findIdx (fun x => decide (k = x)) = i + (S.findIdx (fun x => decide (k = x)) + 1) := by omega
        unfold Instr.findAsking
        rw [Sem.run_bind, hk, he, hidx]
        simp only [hmem]
        rw [← harr, ← ih]
        rfl
theorem key_now (k : Key) : ∀ (es : List MapEntry) (S : List Key) (d : TypeDesc), kvs es = keyKV S → Try.prog.underlying 98 = some d → Instr.findNow d k.ag es 0 = none ∨ (es = [] ∧ Instr.findNow d k.ag es 0 = some none)
  | [], _, _, _, _ => .inr ⟨rfl, rfl⟩
  | e :: es, S, d, _, hd => by
    rw [Try.underlying98] at hd
    injection hd with hd
    subst hd
    exact .inl rfl
theorem key_findKey (k : Key) (w : World) (es : List MapEntry) (S : List Key) (h : kvs es = keyKV S) :
    (Instr.findKey 98 k.ag es).run Try.prog w = .ok (if k ∈ S then some (S.findIdx (fun x => decide (k = x)), .bool true) else none) w := by
  unfold Instr.findKey
  rw [Sem.run_bind, run_underlying Try.underlying98]
  simp only [Result.andThen]
  rcases key_now k es S _ h Try.underlying98 with hn | ⟨rfl, hn⟩
  · rw [hn]
    have := key_find k w es S 0 h
    simpa using this
  · rw [hn]
    cases S with
    | nil => rfl
    | cons a S => simp [kvs, keyKV] at h
theorem MapK.look {w : World} {b : Nat} {S : List Key} (h : MapK w b S) (k : Key) : (Instr.lookup 70 (.map (some b)) k.ag false).run Try.prog w = .ok (.bool (decide (k ∈ S))) w := by
  obtain ⟨es, c, h1, h2⟩ := h
  have hz : (zeroValue 4).run Try.prog w = .ok (.bool false) w := by kernel_rfl
  simp only [Instr.lookup, Sem.run_bind, run_underlying Try.underlying70, MapKept.run_getObj_map h1, key_check, key_findKey k w es.toList S h2, Result.andThen, Sem.run_pure]
  by_cases hm : k ∈ S
  · simp [hm, Result.andThen]
  · simp [hm, Result.andThen, hz]
theorem set_grown (w : World) (b : Nat) (o o' : Obj) (h : w.heap[b]? = some o) : w.grownBy { w with heap := w.heap.setIfInBounds b o' } (some b) ∧ True ∧ ({ w with heap := w.heap.setIfInBounds b o' } : World).heap[b]? = some o' := by
  have hb := (Array.getElem?_eq_some_iff.1 h).1
  refine ⟨⟨rfl, rfl, rfl, by simp, fun k hk hne => ?_⟩, trivial, ?_⟩
  · simp only [Array.getElem?_setIfInBounds]
    rw [if_neg (fun e => hne (by rw [e]))]
  · simp [hb]
theorem MapK.put {w : World} {b : Nat} {S : List Key} (h : MapK w b S) (k : Key) :
    ∃ w', (Instr.mapUpdate 70 (.map (some b)) k.ag (.bool true)).run Try.prog w = .ok () w' ∧ MapK w' b (if k ∈ S then S else S ++ [k]) ∧ w.grownBy w' (some b) := by
  obtain ⟨es, c, h1, h2⟩ := h
  have hlen : es.toList.length = S.length := by have := congrArg List.length h2; simpa [kvs, keyKV] using this
  by_cases hm : k ∈ S
  · have hidx : S.findIdx (fun x => decide (k = x)) < S.length := List.findIdx_lt_length_of_exists ⟨k, hm, by simp⟩
    generalize hj : S.findIdx (fun x => decide (k = x)) = j at *
    have hSj : S[j]? = some k := by
      have := List.findIdx_getElem (xs := S) (p := fun x => decide (k = x)) (w := by rw [hj]; exact hidx)
      simp only [decide_eq_true_eq] at this
      rw [List.getElem?_eq_getElem hidx]
      congr 1
      rw [this]
      congr 1
      exact hj.symm
    obtain ⟨e0, he0⟩ : ∃ e0, es[j]? = some e0 := ⟨_, Array.getElem?_eq_getElem (by simpa using (by omega : j < es.toList.length))⟩
    have hek : e0.key = k.ag ∧ e0.val = .bool true := by
      have h3 := congrArg (fun l => l[j]?) h2
      simp only [kvs, keyKV, List.getElem?_map, hSj, Option.map_some] at h3
      rw [Array.getElem?_toList, he0] at h3
      simp at h3
      exact h3
    obtain ⟨g1, _, g2⟩ := set_grown w b _ (.map (es.modify j fun e => { e with key := k.ag, val := .bool true }) c) h1
    refine ⟨_, ?_, ⟨_, _, g2, ?_⟩, g1⟩
    · simp [Instr.mapUpdate, run_underlying Try.underlying70, MapKept.run_getObj_map h1, key_check, key_findKey k w es.toList S h2, hm, hj, he0, hek.1, Instr.keyThatStays, key_bits, MapKept.run_setObj_map _ h1, Result.andThen]
    · rw [if_pos hm, ← h2]
      apply List.ext_getElem?
      intro i
      simp only [kvs, List.getElem?_map, Array.getElem?_toList, Array.getElem?_modify]
      by_cases hi : j = i
      · subst hi
        simp [he0, hek.1, hek.2]
      · rw [if_neg hi]
  · obtain ⟨g1, _, g2⟩ := set_grown w b _ (.map (es.push ⟨k.ag, .bool true, c⟩) (c + 1)) h1
    refine ⟨_, ?_, ⟨_, _, g2, ?_⟩, g1⟩
    · simp [Instr.mapUpdate, run_underlying Try.underlying70, MapKept.run_getObj_map h1, key_check, key_findKey k w es.toList S h2, hm, MapKept.run_setObj_map _ h1, Result.andThen]
    · rw [if_neg hm]
      simp only [kvs, keyKV, Array.toList_push, List.map_append, List.map_cons, List.map_nil] at h2 ⊢
      rw [h2]
end Go.Proofs.Ytpjnbikkhfnjbaa
