/- Parts: AsQ, Numb, AwD. -/
import Derived.Test.YtakidgndipnciaaDoorMg06
import Derived.Test.YtakidgndipnciaaDoorMg01
import Derived.Test.YtakidgndipnciaaDoorRows
import Derived.Deep.RegionLaw
import Derived.Test.YtakidgndipnciaaDoorMg14
import Derived.Test.YtakidgndipnciaaDoorMg08
import Derived.Test.YtakidgndipnciaaDoorMg10
import Derived.Test.YtakidgndipnciaaDoorMg04
import Derived.Test.YtakidgndipnciaaDoorMg03
/- Plain: the text of a path that is right is read as it was. No condition. -/
namespace Go.Proofs.YtakidgndipnciaaDoor
open Go

theorem name_let {s : ByteArray} (h : nameE s = 0) : ∀ x ∈ s.data.toList, letB x = true := fun x hx => by
  cases hb : letB x with
  | true => rfl
  | false =>
    unfold letB at hb
    have h1 := of_decide_eq_false hb
    exact absurd rfl (name_no h (c := x) (by omega) x hx)
theorem stop_let {r : List UInt8} (h : ∀ c, r.head? = some c → letB c = false) : r.takeWhile letB = [] ∧ r.dropWhile letB = r := by
  cases r with
  | nil => exact ⟨rfl, rfl⟩
  | cons c r =>
    have hc := h c rfl
    constructor
    · rw [List.takeWhile_cons, if_neg (by rw [hc]; decide)]
    · rw [List.dropWhile_cons, if_neg (by rw [hc]; decide)]
theorem pName_name {s : ByteArray} {r : List UInt8} (h : nameE s = 0) (hr : ∀ c, r.head? = some c → letB c = false) : pName (s.data.toList ++ r) = .ok (s, r) := by
  obtain ⟨e1, e2⟩ := stop_let hr
  have t1 : (s.data.toList ++ r).takeWhile letB = s.data.toList := by rw [List.takeWhile_append_of_pos (name_let h), e1, List.append_nil]
  have t2 : (s.data.toList ++ r).dropWhile letB = r := by rw [List.dropWhile_append_of_pos (name_let h), e2]
  unfold pName
  rw [t1, t2, if_neg (name_ne h), bs_of]
theorem valF_cons (q : Bool) (x : UInt8) (r : List UInt8) : valF q (x :: r) = if q = false ∧ (x = 44 ∨ x = 93) then ([], x :: r) else (x :: (valF (if x = 39 then !q else q) r).1, (valF (if x = 39 then !q else q) r).2) := rfl
theorem valF_scan : ∀ (a r : List UInt8) (q q1 q2 : Bool), scanQ 44 q a = some q1 → scanQ 93 q a = some q2 → q1 = q2 ∧ valF q (a ++ r) = (a ++ (valF q1 r).1, (valF q1 r).2)
  | [], r, q, q1, q2, h1, h2 => by
    have e1 : some q = some q1 := h1
    have e2 : some q = some q2 := h2
    injection e1 with e1
    injection e2 with e2
    subst e1; subst e2
    exact ⟨rfl, rfl⟩
  | x :: a, r, q, q1, q2, h1, h2 => by
    rw [scanQ_cons] at h1 h2
    by_cases h : x = 39
    · rw [if_pos h] at h1 h2
      obtain ⟨e1, e2⟩ := valF_scan a r _ _ _ h1 h2
      refine ⟨e1, ?_⟩
      rw [List.cons_append, valF_cons, if_neg (fun hh => by subst h; rcases hh.2 with h3 | h3 <;> exact absurd h3 (by decide)), if_pos h, e2]; rfl
    · rw [if_neg h] at h1 h2
      split at h1
      · cases h1
      · rename_i n1
        split at h2
        · cases h2
        · rename_i n2
          obtain ⟨e1, e2⟩ := valF_scan a r _ _ _ h1 h2
          refine ⟨e1, ?_⟩
          rw [List.cons_append, valF_cons, if_neg (fun hh => by rcases hh.2 with h3 | h3; exact n1 ⟨h3, hh.1⟩; exact n2 ⟨h3, hh.1⟩), if_neg h, e2]; rfl
theorem scan_show93 {c : UInt8} (hc : 57 < c.toNat ∧ c.toNat < 97) {v : Val} (h : valE v = 0) : scanQ c false (showL v) = some false := by
  have h39 : (39 : UInt8).toNat = 39 := rfl
  unfold showL
  rcases val_parts h with ⟨h1, _⟩ | ⟨h1, _⟩ | ⟨h1, _⟩
  · rw [if_pos h1]
    exact scanQ_plain (itoa_no (by omega) _) (itoa_no (by omega) _)
  · rw [if_neg (by omega), if_pos h1]
    have hl : ∀ l : List UInt8, l.all (fun x => decide (97 ≤ x.toNat ∧ x.toNat ≤ 122)) = true → scanQ c false l = some false := fun l hl => by
      refine scanQ_plain (fun x hx e => ?_) (fun x hx e => ?_)
      · have := of_decide_eq_true (List.all_eq_true.1 hl x hx)
        subst e; omega
      · have := of_decide_eq_true (List.all_eq_true.1 hl x hx)
        subst e; omega
    split
    · exact hl _ (by decide)
    · exact hl _ (by decide)
  · rw [if_neg (by omega), if_neg (by omega)]
    rw [scanQ_cons, if_pos rfl, scanQ_append]
    show ((scanQ c true (dbl v.s.data.toList)).bind fun q' => scanQ c q' [39]) = _
    rw [scanQ_dbl]; rfl
theorem pVal_show {v : Val} {c : UInt8} {r : List UInt8} (h : valE v = 0) (hc : c = 44 ∨ c = 93) : pVal (showL v ++ c :: r) = .ok (v, c :: r) := by
  obtain ⟨_, e⟩ := valF_scan (showL v) (c :: r) false false false (scan_show (by decide) h) (scan_show93 (by decide) h)
  have e2 : valF false (c :: r) = ([], c :: r) := by
    rw [valF_cons, if_pos ⟨rfl, hc⟩]
  rw [e2, List.append_nil] at e
  obtain ⟨h1, h2⟩ := read_show h
  unfold pVal
  rw [e]
  show (if readE (showL v) = 0 then _ else _) = _
  rw [if_pos h1, h2]
theorem tst_parts {t : Tst} (h : tstE t = 0) : nameE t.name = 0 ∧ (1 ≤ t.how ∧ t.how ≤ 4) ∧ (t.how = 4 → t.v = zVal) ∧ (t.how ≠ 4 → valE t.v = 0) := by
  unfold tstE at h
  split at h
  · rename_i h1; exact absurd h h1
  · rename_i h1
    split at h
    · cases h
    · rename_i h2
      refine ⟨by omega, by omega, fun h4 => ?_, fun h4 => ?_⟩
      · rw [if_pos h4] at h
        split at h
        · assumption
        · cases h
      · rw [if_neg h4] at h; exact h
theorem pTest_text {t : Tst} {c : UInt8} {r : List UInt8} (h : tstE t = 0) (hc : c = 44 ∨ c = 93) : pTest (tstT t ++ c :: r) = .ok (t, c :: r) := by
  obtain ⟨h1, h2, h3, h4⟩ := tst_parts h
  have hcl : letB c = false := by rcases hc with rfl | rfl <;> decide
  have hn : ∀ c', ((signT t.how ++ (if t.how = 4 then [] else showL t.v)) ++ c :: r).head? = some c' → letB c' = false := fun c' he => by
    have h5 : t.how = 1 ∨ t.how = 2 ∨ t.how = 3 ∨ t.how = 4 := by omega
    rcases h5 with e | e | e | e
    · rw [e] at he; simp [signT] at he; subst he; decide
    · rw [e] at he; simp [signT] at he; subst he; decide
    · rw [e] at he; simp [signT] at he; subst he; decide
    · rw [e] at he; simp [signT] at he; subst he; exact hcl
  unfold pTest tstT
  rw [List.append_assoc, pName_name h1 hn]
  show pSign t.name ((signT t.how ++ (if t.how = 4 then [] else showL t.v)) ++ c :: r) = _
  obtain ⟨tn, th, tv⟩ := t
  simp only at h1 h2 h3 h4 hn ⊢
  have h5 : th = 1 ∨ th = 2 ∨ th = 3 ∨ th = 4 := by omega
  have hv : ∀ k : Int, th = k → k ≠ 4 → pHow tn k (showL tv ++ c :: r) = .ok (⟨tn, k, tv⟩, c :: r) := fun k e hk => by
    unfold pHow
    rw [pVal_show (h4 (by omega)) hc]
  rcases h5 with rfl | rfl | rfl | rfl
  · exact hv 1 rfl (by decide)
  · exact hv 2 rfl (by decide)
  · exact hv 3 rfl (by decide)
  · rw [h3 rfl]
    show pSign tn (c :: r) = _
    unfold pSign
    rcases hc with rfl | rfl <;> rfl
theorem join_len2 (xs : List (List UInt8)) (c : UInt8) : xs.length ≤ (Lib.join xs [c]).length + 1 := by
  cases xs with
  | nil => simp
  | cons a r =>
    induction r generalizing a with
    | nil => simp
    | cons y r ih =>
      have h1 := ih y
      rw [join_two, List.length_append]
      simp only [List.length_cons] at h1 ⊢
      omega
theorem pTs_text : ∀ (ts : List Tst) (acc : List Tst) (m : Nat) (r : List UInt8), ts ≠ [] → ts.length ≤ m → (∀ t ∈ ts, tstE t = 0) → pTs acc m (Lib.join (ts.map tstT) [44] ++ 93 :: r) = .ok (acc ++ ts, r)
  | [], _, _, _, h, _, _ => absurd rfl h
  | [t], acc, 0, r, _, hm, _ => by simp at hm
  | [t], acc, m + 1, r, _, _, ht => by
    show pTs acc (m + 1) (Lib.join [tstT t] [44] ++ 93 :: r) = _
    rw [join_one]
    unfold pTs
    rw [pTest_text (ht t (by simp)) (.inr rfl)]
    rfl
  | t :: u :: ts, acc, 0, r, _, hm, _ => by simp at hm
  | t :: u :: ts, acc, m + 1, r, _, hm, ht => by
    show pTs acc (m + 1) (Lib.join (tstT t :: tstT u :: ts.map tstT) [44] ++ 93 :: r) = _
    rw [join_two, List.append_assoc]
    unfold pTs
    rw [List.cons_append, pTest_text (ht t (by simp)) (.inl rfl)]
    show pTs (acc ++ [t]) m (Lib.join ((u :: ts).map tstT) [44] ++ 93 :: r) = _
    rw [pTs_text (u :: ts) (acc ++ [t]) m r (by simp) (by simp at hm ⊢; omega) (fun x hx => ht x (List.mem_cons_of_mem _ hx)), List.append_assoc]; rfl
theorem pKind_text {b : ByteArray} {k : Bool} {n : ByteArray} {ts : List Tst} {r : List UInt8} (hn : nameE n = 0) (ht : ∀ t ∈ ts, tstE t = 0) (hr : r = [] ∨ ∃ r', r = 32 :: r') : pKind b k (n.data.toList ++ tstsT ts ++ r) = .ok (⟨b, k, n, ts⟩, r) := by
  have hrl : ∀ c, r.head? = some c → letB c = false := fun c hc => by
    rcases hr with rfl | ⟨r', rfl⟩
    · simp at hc
    · simp at hc; subst hc; decide
  unfold pKind
  by_cases h0 : ts = []
  · subst h0
    have e : tstsT [] = [] := rfl
    rw [e, List.append_nil, pName_name hn hrl]
    rcases hr with rfl | ⟨r', rfl⟩
    · rfl
    · rfl
  · have e : tstsT ts = 91 :: (Lib.join (ts.map tstT) [44] ++ [93]) := by unfold tstsT; rw [if_neg h0]
    have e2 : n.data.toList ++ tstsT ts ++ r = n.data.toList ++ 91 :: (Lib.join (ts.map tstT) [44] ++ 93 :: r) := by rw [e]; simp
    rw [e2, pName_name hn (fun c hc => by simp at hc; subst hc; decide)]
    have hl := join_len2 (ts.map tstT) 44
    rw [List.length_map] at hl
    have hp := pTs_text ts [] ((Lib.join (ts.map tstT) [44] ++ 93 :: r).length + 1) r h0 (by rw [List.length_append]; omega) ht
    show (match pTs [] ((Lib.join (ts.map tstT) [44] ++ 93 :: r).length + 1) (Lib.join (ts.map tstT) [44] ++ 93 :: r) with | .error e => Except.error e | .ok (ts, r2) => Except.ok ((⟨b, k, n, ts⟩ : Stp), r2)) = _
    rw [hp]; rfl
theorem pNeed_hit (c : UInt8) (r : List UInt8) : pNeed c (c :: r) = .ok r := by
  show (if c = c then _ else _) = _
  rw [if_pos rfl]
theorem pBond_text {k : Bool} {b n : ByteArray} {ts : List Tst} {r : List UInt8} (hb : nameE b = 0) (hn : nameE n = 0) (ht : ∀ t ∈ ts, tstE t = 0) (hr : r = [] ∨ ∃ r', r = 32 :: r') :
    pBond k (b.data.toList ++ (if k = true then [45, 32] else [45, 62, 32]) ++ (n.data.toList ++ tstsT ts ++ r)) = .ok (⟨b, k, n, ts⟩, r) := by
  cases k with
  | true =>
    have e : b.data.toList ++ (if true = true then [45, 32] else [45, 62, 32]) ++ (n.data.toList ++ tstsT ts ++ r) = b.data.toList ++ 45 :: 32 :: (n.data.toList ++ tstsT ts ++ r) := by simp
    rw [e]
    unfold pBond
    rw [pName_name hb (fun c hc => by simp at hc; subst hc; decide)]
    simp only [pNeed_hit, if_true]
    exact pKind_text hn ht hr
  | false =>
    have e : b.data.toList ++ (if false = true then [45, 32] else [45, 62, 32]) ++ (n.data.toList ++ tstsT ts ++ r) = b.data.toList ++ 45 :: 62 :: 32 :: (n.data.toList ++ tstsT ts ++ r) := by simp
    rw [e]
    unfold pBond
    rw [pName_name hb (fun c hc => by simp at hc; subst hc; decide)]
    simp only [pNeed_hit, Bool.false_eq_true, if_false]
    exact pKind_text hn ht hr
theorem stp_parts {x : Stp} (h : stpE false x = 0) : nameE x.kind = 0 ∧ nameE x.bond = 0 ∧ x.tests.length ≤ 8 ∧ firstE tstE x.tests = 0 := by
  unfold stpE at h
  split at h
  · rename_i h1; exact absurd h h1
  · rename_i h1
    rw [if_neg (by decide)] at h
    split at h
    · rename_i h2; exact absurd h h2
    · rename_i h2
      split at h
      · cases h
      · exact ⟨by omega, by omega, by omega, h⟩
theorem stp_parts1 {x : Stp} (h : stpE true x = 0) : nameE x.kind = 0 ∧ x.bond = .empty ∧ x.back = false ∧ x.tests.length ≤ 8 ∧ firstE tstE x.tests = 0 := by
  unfold stpE at h
  split at h
  · rename_i h1; exact absurd h h1
  · rename_i h1
    rw [if_pos rfl] at h
    split at h
    · cases h
    · rename_i h2
      split at h
      · cases h
      · refine ⟨by omega, ?_, ?_, by omega, h⟩
        · exact Classical.not_not.1 fun e => h2 (.inl e)
        · exact Bool.eq_false_iff.2 fun e => h2 (.inr e)
theorem firstE_all {D : Type} {f : D → Int} : ∀ {l : List D}, firstE f l = 0 → ∀ x ∈ l, f x = 0
  | [], _, _, hx => by cases hx
  | d :: r, h, x, hx => by
    unfold firstE at h
    split at h
    · rename_i h0
      rcases List.mem_cons.1 hx with rfl | hx
      · exact h0
      · exact firstE_all h x hx
    · rename_i h0; exact absurd h h0
theorem pStep_text {x : Stp} {r : List UInt8} (h : stpE false x = 0) (hr : r = [] ∨ ∃ r', r = 32 :: r') : pStep (stpT false x ++ r) = .ok (x, r) := by
  obtain ⟨h1, h2, _, h3⟩ := stp_parts h
  have ht := firstE_all h3
  obtain ⟨b, k, n, ts⟩ := x
  simp only at h1 h2 ht
  have hb := pBond_text (k := k) h2 h1 ht hr
  cases k with
  | true =>
    have e : stpT false ⟨b, true, n, ts⟩ ++ r = 32 :: 60 :: 45 :: (b.data.toList ++ (if true = true then [45, 32] else [45, 62, 32]) ++ (n.data.toList ++ tstsT ts ++ r)) := by simp [stpT, linkT]
    rw [e]
    unfold pStep
    rw [pNeed_hit]
    show (match pNeed 45 (45 :: _) with | .error e => Except.error e | .ok r2 => pBond true r2) = _
    rw [pNeed_hit]
    exact hb
  | false =>
    have e : stpT false ⟨b, false, n, ts⟩ ++ r = 32 :: 45 :: (b.data.toList ++ (if false = true then [45, 32] else [45, 62, 32]) ++ (n.data.toList ++ tstsT ts ++ r)) := by simp [stpT, linkT]
    rw [e]
    unfold pStep
    rw [pNeed_hit]
    exact hb
theorem steps_head (rs : List Stp) : rs.flatMap (stpT false) = [] ∨ ∃ r', rs.flatMap (stpT false) = 32 :: r' := by
  cases rs with
  | nil => exact .inl rfl
  | cons x rs =>
    refine .inr ?_
    rw [List.flatMap_cons]
    unfold stpT linkT
    rw [if_neg (by decide)]
    cases x.back with
    | true => exact ⟨_, rfl⟩
    | false => exact ⟨_, rfl⟩
theorem pAsk_text : ∀ (rs acc : List Stp) (m : Nat), rs.length < m → (∀ x ∈ rs, stpE false x = 0) → pAsk acc m (rs.flatMap (stpT false)) = .ok (acc ++ rs)
  | _, _, 0, hm, _ => by omega
  | [], acc, m + 1, _, _ => by unfold pAsk; rw [List.append_nil]; rfl
  | x :: rs, acc, m + 1, hm, h => by
    rw [List.flatMap_cons]
    unfold pAsk
    have hs := pStep_text (h x (by simp)) (steps_head rs)
    have hne : stpT false x ++ rs.flatMap (stpT false) ≠ [] := by
      rcases steps_head (x :: rs) with e | ⟨r', e⟩
      · intro _
        rw [List.flatMap_cons] at e
        rw [e] at hs
        cases hs
      · rw [List.flatMap_cons] at e; rw [e]; simp
    rw [if_neg hne, hs]
    show pAsk (acc ++ [x]) m _ = _
    rw [pAsk_text rs (acc ++ [x]) m (by simp at hm; omega) (fun y hy => h y (List.mem_cons_of_mem _ hy)), List.append_assoc]; rfl
theorem ask_parts {p : List Stp} (h : askE p = 0) : ∃ x r, p = x :: r ∧ stpE true x = 0 ∧ p.length ≤ 6 ∧ ∀ y ∈ r, stpE false y = 0 := by
  unfold askE at h
  split at h
  · cases h
  · split at h
    · cases h
    · rename_i h6
      cases p with
      | nil => cases h
      | cons x r =>
        simp only at h
        split at h
        · rename_i h1; exact absurd h h1
        · rename_i h1
          exact ⟨x, r, rfl, by omega, by omega, firstE_all h⟩
theorem stps_len (rs : List Stp) : rs.length ≤ (rs.flatMap (stpT false)).length := by
  induction rs with
  | nil => simp
  | cons x rs ih =>
    rw [List.flatMap_cons, List.length_append, List.length_cons]
    have : 1 ≤ (stpT false x).length := by
      unfold stpT linkT
      rw [if_neg (by decide)]
      cases x.back <;> simp <;> omega
    omega
theorem ask_text {p : List Stp} (h : askE p = 0) : askR (askT p) = .ok p := by
  obtain ⟨x, r, rfl, hx, _, hr⟩ := ask_parts h
  obtain ⟨h1, h2, h3, _, h4⟩ := stp_parts1 hx
  have e : askT (x :: r) = x.kind.data.toList ++ tstsT x.tests ++ r.flatMap (stpT false) := by
    show stpT true x ++ _ = _
    unfold stpT
    rw [if_pos rfl]; rfl
  rw [e]
  unfold askR
  rw [pKind_text h1 (firstE_all h4) (steps_head r)]
  have hxx : (⟨.empty, false, x.kind, x.tests⟩ : Stp) = x := by
    obtain ⟨b, k, n, ts⟩ := x
    simp only at h2 h3
    subst h2; subst h3; rfl
  rw [hxx]
  have := stps_len r
  exact (pAsk_text r [x] _ (by omega) hr).trans rfl
theorem ask_right {p : List Stp} (h : askE p = 0) : readAE (askT p) = 0 ∧ readAV (askT p) = p ∧ readAN (askT p) = 0 := by
  unfold readAE readAV readAN
  rw [ask_text h]
  exact ⟨h, if_pos h, rfl⟩
theorem ask_back {l : List UInt8} (h : readAE l = 0) : askE (readAV l) = 0 ∧ askT (readAV l) = l := by
  unfold readAE at h
  unfold readAV
  cases hr : askR l with
  | error e => rw [hr] at h; cases h
  | ok p =>
    rw [hr] at h
    have h' : askE p = 0 := h
    show askE (if askE p = 0 then p else []) = 0 ∧ askT (if askE p = 0 then p else []) = l
    rw [if_pos h']
    exact ⟨h', ask_read hr⟩
open Go Go.RowKit

/-- A step of a region that draws, as it stands. -/
theorem step_here {P : Program} {ops : Array Oper} {o : Oper} {a : Act} {w : World} {K : Act → World → Prop} {Q : Exit → Act → World → Prop} {E : Prop} (hg : o.guard = none) (h : Oper.wp P o a w K Q) :
    if Region.wanted o (yielded ops a.tmps) = true then Oper.wp P o a w K Q else E := by
  rw [if_pos (by simp [Region.wanted, hg])]; exact h
/-- .. whatever it answers. -/
theorem step_callx {P : Program} {ops : Array Oper} {o : Oper} {a : Act} {w : World} {K : Act → World → Prop} {Q : Exit → Act → World → Prop} {E : Prop} (hg : o.guard = none) (g : Nat) (vs : Array Value)
    (hr : (execOp a.eval o).run P w = .ok (.enter g vs) w) {R : Ending → World → Prop}
    (h : Calls P g vs w R) (hk : ∀ e w', R e w' → ∃ u, e = .returned u ∧ K (a.put o.dst u) w') :
    if Region.wanted o (yielded ops a.tmps) = true then Oper.wp P o a w K Q else E := by
  rw [if_pos (by simp [Region.wanted, hg])]
  unfold Oper.wp
  rw [hr, Oper.upon_enter]
  exact h.mono fun e w' hR => by
    obtain ⟨u, rfl, hK⟩ := hk e w' hR
    exact hK



/-- The variable ask.signs is laid. -/
def SgnOk (w : World) : Prop := w.cell? ⟨0, 1, none⟩ = some (.string ⟨#[61]⟩) ∧ w.cell? ⟨0, 2, none⟩ = some (.string ⟨#[33]⟩) ∧ w.cell? ⟨0, 3, none⟩ = some (.string ⟨#[60]⟩) ∧ w.cell? ⟨0, 4, none⟩ = some (.string .empty)
theorem SgnOk.below {w w' : World} (h : SgnOk w) (hb : Below w.heap.size w w') : SgnOk w' := ⟨cell_below hb h.1, cell_below hb h.2.1, cell_below hb h.2.2.1, cell_below hb h.2.2.2⟩
theorem sgn_cell {w : World} (h : SgnOk w) {m : Nat} (h1 : 1 ≤ m) (h4 : m ≤ 4) : w.cell? ⟨0, m, none⟩ = some (.string (bs (signT (m : Int)))) := by
  obtain ⟨e1, e2, e3, e4⟩ := h
  rcases (by omega : m = 1 ∨ m = 2 ∨ m = 3 ∨ m = 4) with rfl | rfl | rfl | rfl
  · exact e1
  · exact e2
  · exact e3
  · exact e4
theorem sgn_len (h : Int) : (signT h).length ≤ 1 := by unfold signT; split <;> (try split) <;> (try split) <;> simp
theorem tst_text (nm : ByteArray) (hw : Int) (v : Val) : nm ++ bs (signT hw) ++ bs (if hw = 4 then [] else showL v) = bs (tstT ⟨nm, hw, v⟩) := by
  conv => lhs; rw [← bs_of nm]
  rw [bs_append, bs_append]
  unfold tstT
  rw [List.append_assoc]
theorem tst_len {t : Tst} (h : tstE t = 0) : (tstT t).length ≤ 51 := by
  obtain ⟨h1, _, _, h4⟩ := tst_parts h
  have hn := name_len h1
  have hs := sgn_len t.how
  unfold tstT
  rw [List.length_append, List.length_append]
  split
  · rw [List.length_nil]; omega
  · rename_i h; have := show_len (h4 h); omega
theorem tsts_len : ∀ {l : List Tst}, (∀ t ∈ l, tstE t = 0) → (Lib.join (l.map tstT) [44]).length ≤ 52 * l.length
  | [], _ => by simp [Lib.join]
  | [a], h => by have := tst_len (h a List.mem_cons_self); show (Lib.join [tstT a] [44]).length ≤ _; rw [join_one]; simp; omega
  | a :: b :: r, h => by
    have h1 := tst_len (h a List.mem_cons_self)
    have h2 := tsts_len (l := b :: r) (fun t ht => h t (List.mem_cons_of_mem _ ht))
    show (Lib.join (tstT a :: tstT b :: r.map tstT) [44]).length ≤ _
    rw [join_two, List.length_append, List.length_cons]
    have h3 : (Lib.join (tstT b :: r.map tstT) [44]).length ≤ 52 * (b :: r).length := h2
    simp only [List.length_cons] at h3 ⊢
    omega
set_option maxRecDepth 100000 in
set_option maxHeartbeats 8000000 in
theorem atests_any (ts : List Tst) (v : Value) (w : World) (hT : TxP w) (hS : SgnOk w) (h : Sl tstL w v ts) (h8 : ts.length ≤ 8) (hok : ∀ t ∈ ts, tstE t = 0) :
    Calls Tryd.prog 13 #[v] w fun e w' => e = .returned (.tuple #[.string (bs (tstsT ts)), .nilIface]) ∧ Below w.heap.size w w' := by
  obtain ⟨i0, ei, ez, ez1, ez2⟩ := info_parts str_info
  obtain ⟨A, c, rfl, _, _⟩ := h.form
  have HV := Lib.hid h
  have HT := Lib.hid hT
  have HS := Lib.hid hS
  have HOK := Lib.hid hok
  clear h hT hS hok
  go_enter Tryd.func13, Tryd.ntmps13
  go_wp2_with fail
  -- a loop: the mask [.k, .k, .y 2, .y 3, .a, .k, .y 6, .y 7, .y 8, .y 9, .k, .k, .b, .y 13, .y 14, .y 15, .y 16, .y 17, .y 18, .y 19, .y 20, .y 21, .y 22, .y 23, .y 24, .y 25, .y 26, .y 27, .y 28, .y 29, .y 30, .y 31, .y 32, .y 33, .y 34, .y 35, .y 36, .y 37, .y 38, .y 39, .y 40, .y 41, .k, .k, .k, .k, .k, .k, .k], the slots 4 12 0 0, the relation fun x4 i _ _ wr => ∃ k : Nat, k ≤ ts.length ∧ i = .int .i64 k ∧ Hid (Below w.heap.size w wr) ∧ Hid (Own wr w.heap.size 9 1 x4 k (wv ((ts.take k).map tstT))), the measure fun _ i _ _ _ => ts.length - (intOf i).toNat
  apply wp_loopm [.k, .k, .y 2, .y 3, .a, .k, .y 6, .y 7, .y 8, .y 9, .k, .k, .b, .y 13, .y 14, .y 15, .y 16, .y 17, .y 18, .y 19, .y 20, .y 21, .y 22, .y 23, .y 24, .y 25, .y 26, .y 27, .y 28, .y 29, .y 30, .y 31, .y 32, .y 33, .y 34, .y 35, .y 36, .y 37, .y 38, .y 39, .y 40, .y 41, .k, .k, .k, .k, .k, .k, .k] 4 12 0 0 (by decide +kernel) rfl (fun x4 i _ _ wr => ∃ k : Nat, k ≤ ts.length ∧ i = .int .i64 k ∧ Hid (Below w.heap.size w wr) ∧ Hid (Own wr w.heap.size 9 1 x4 k (wv ((ts.take k).map tstT)))) (fun _ i _ _ _ => ts.length - (intOf i).toNat) _ _ _ _ rfl rfl rfl rfl
  case start => exact ⟨0, Nat.zero_le _, rfl, Below.refl _ _, Own.nil _ _ _ _⟩
  case round =>
    -- a round: the names u4 u12 _ _ (four), the world's name
    intro ff u4 u12 _ _ wr hrel
    dsimp only [spread]
    obtain ⟨k, hk, rfl, HB, HO⟩ := hrel
    obtain ⟨wo, hwo⟩ : ∃ wo : World, wo = wr := ⟨_, rfl⟩
    subst hwo
    obtain ⟨A5, c5, rfl, hc5, _⟩ := HO.out.form
    by_cases hlt : k < ts.length
    · obtain ⟨d, hd⟩ : ∃ d, ts[k]? = some d := ⟨_, List.getElem?_eq_getElem hlt⟩
      have hlt' : (k : Int) < (ts.length : Int) := by omega
      obtain ⟨gb, o, rfl, hdok, q0, q1, q2, q3, q4⟩ := tst_at (HV.out.below HB.out) hd
      have hte := HOK.out d (List.mem_of_getElem? hd)
      have HTE := Lib.hid hte
      obtain ⟨hnm, hhw, _, hval⟩ := tst_parts hte
      have hn8 : d.name.size ≤ 8 := by have := name_len hnm; rw [Array.length_toList] at this; exact this
      have HSN : Hid (wv ((ts.take (k + 1)).map tstT) = wv ((ts.take k).map tstT) ++ [.string (bs (tstT d))]) := by
        unfold Hid wv
        rw [List.take_add_one, hd]; simp
      obtain ⟨nm, hw, ⟨dt, dn, ds⟩⟩ := d
      obtain ⟨m, rfl⟩ : ∃ m : Nat, hw = (m : Int) := ⟨hw.toNat, by have : 1 ≤ hw := hhw.1; omega⟩
      have hn8 : nm.size ≤ 8 := hn8
      have hm1 : 1 ≤ m := by have : (1 : Int) ≤ (m : Int) := hhw.1; omega
      have hm4 : m ≤ 4 := by have : (m : Int) ≤ 4 := hhw.2; omega
      have ha := (Below.refl wo.heap.size wo).alloc (Nat.le_refl _) (.cells #[.string nm, .int .i64 (m : Int), .int .i64 dt, .int .i64 dn, .string ds] 40)
      have hbk := heap_alloc_new wo (.cells #[.string nm, .int .i64 (m : Int), .int .i64 dt, .int .i64 dn, .string ds] 40)
      have HVP := Lib.hid (fun wx hTx => vprint_any ⟨dt, dn, ds⟩ hdok.2.2 wx hTx)
      have HVL : Hid ((m : Int) ≠ 4 → valE ⟨dt, dn, ds⟩ = 0) := hval
      have HSL : Hid (valE ⟨dt, dn, ds⟩ = 0 → (showL ⟨dt, dn, ds⟩).length ≤ 42) := show_len
      have HTX := Lib.hid (tst_text nm (m : Int) ⟨dt, dn, ds⟩)
      clear hd hte hnm hhw hval hdok hk
      go_upto_region 5 with fail
      generalize wo.alloc (.cells #[.string nm, .int .i64 (m : Int), .int .i64 dt, .int .i64 dn, .string ds] 40) = w3 at *
      clear q0 q1 q2 q3 q4
      generalize hq : wo.heap.size = q at *
      have HQ : Hid (w.heap.size ≤ q) := by have := HB.out.size; unfold Hid; omega
      have HQ3 : Hid (w3.heap.size = q + 1 ∨ q < w3.heap.size) := .inr (Array.getElem?_eq_some_iff.1 hbk).1
      have HBK := Lib.hid hbk
      have HA := Lib.hid ha
      clear hbk ha
      have y1 := block_cell HBK.out 1
      go_upto_if 18 with fail
      -- a cut: the mask [.k, .k, .y 2, .y 3, .k, .k, .k, .a, .y 8, .y 9, .k, .k, .k, .k, .k, .k, .k, .k, .y 18, .y 19, .y 20, .y 21, .y 22, .y 23, .y 24, .y 25, .y 26, .y 27, .y 28, .k, .k, .k, .k, .k, .k, .k, .k, .k, .k, .k, .k, .k, .k, .k, .k, .k, .k, .k, .k], the slots 7 0 0 0, the relation fun v _ _ _ wx => v = .string (bs (if (m : Int) = 4 then [] else showL ⟨dt, dn, ds⟩)) ∧ Hid (Below w3.heap.size w3 wx) ∧ (bs (if (m : Int) = 4 then [] else showL ⟨dt, dn, ds⟩)).size ≤ 42
      apply wp_cutm [.k, .k, .y 2, .y 3, .k, .k, .k, .a, .y 8, .y 9, .k, .k, .k, .k, .k, .k, .k, .k, .y 18, .y 19, .y 20, .y 21, .y 22, .y 23, .y 24, .y 25, .y 26, .y 27, .y 28, .k, .k, .k, .k, .k, .k, .k, .k, .k, .k, .k, .k, .k, .k, .k, .k, .k, .k, .k, .k] 7 0 0 0 (by decide +kernel) (fun v _ _ _ wx => v = .string (bs (if (m : Int) = 4 then [] else showL ⟨dt, dn, ds⟩)) ∧ Hid (Below w3.heap.size w3 wx) ∧ (bs (if (m : Int) = 4 then [] else showL ⟨dt, dn, ds⟩)).size ≤ 42)
      case first =>
        -- within a cut
        intro JJ KK hmeet hnext
        -- of what is to be done behind only the innermost is kept
        rename ∀ (a : Act) (w : World), Code.wp _ _ _ a w → _ => hkeep
        revert hkeep
        repeat (rename ∀ (a : Act) (w : World), Code.wp _ _ _ a w → _ => hz; clear hz)
        intro hkeep
        by_cases he : (m : Int) = 4
        · have hb1 : ((m : Int) == 4) = true := by rw [he]; rfl
          have hb2 : ((m : Int) != 4) = false := by rw [he]; rfl
          have hb3 : (!((m : Int) == 4)) = false := by rw [hb1]; rfl
          have HE : Hid ((if (m : Int) = 4 then [] else showL ⟨dt, dn, ds⟩) = []) := if_pos he
          clear he
          try rw [hb3]
          go_wp2_with fail
          -- a way's end
          refine Met.intro ?_
          go_step
          refine Forgot.at _ _ _ _ _ rfl rfl rfl rfl rfl rfl ?_
          exact ⟨by rw [HE.out]; rfl, Below.refl _ _, by rw [HE.out]; decide⟩
        · have hb1 : ((m : Int) == 4) = false := beq_eq_false_iff_ne.2 he
          have hb2 : ((m : Int) != 4) = true := bne_iff_ne.2 he
          have hb3 : (!((m : Int) == 4)) = true := by rw [hb1]; rfl
          have HE : Hid ((if (m : Int) = 4 then [] else showL ⟨dt, dn, ds⟩) = showL ⟨dt, dn, ds⟩) := if_neg he
          have hv0 := HVL.out he
          have hsl := HSL.out hv0
          have HLN : Hid ((bs (showL ⟨dt, dn, ds⟩)).size ≤ 42) := by unfold Hid; rw [bs_size]; exact hsl
          have hx := HVP.out w3 (HT.out.below (HB.out.trans (HA.out.mono HQ.out)))
          rw [hv0, if_pos rfl, errV_zero rfl] at hx
          have y2 := block_cell HBK.out 2
          have y3 := block_cell HBK.out 3
          have y4 := block_cell HBK.out 4
          clear he hv0 hsl
          try rw [hb3]
          go_wp2_with fail
          refine hx.mono ?_
          clear hx y1 y2 y3 y4
          rintro e w4 ⟨rfl, hb4⟩
          go_wp2_with fail
          -- a way's end
          refine Met.intro ?_
          go_step
          refine Forgot.at _ _ _ _ _ rfl rfl rfl rfl rfl rfl ?_
          exact ⟨by rw [HE.out], hb4, by rw [HE.out]; exact HLN.out⟩
      case rest =>
      -- behind a cut: the names of the slots' values u7 _ _ _ (four)
      intro ff u7 _ _ _ wc hcut
      dsimp only [spread]
      obtain ⟨w4, hw4⟩ : ∃ y : World, y = wc := ⟨_, rfl⟩
      subst hw4
      obtain ⟨rfl, HB4, hss⟩ := hcut
      generalize bs (if (m : Int) = 4 then [] else showL ⟨dt, dn, ds⟩) = sh at *
      have HB34 := Lib.hid (HA.out.trans (HB4.out.mono (by rw [← hq]; exact HA.out.size)))
      have HBK4 := Lib.hid ((HB4.out.block _ (Array.getElem?_eq_some_iff.1 HBK.out).1).trans HBK.out)
      have HBw := Lib.hid (HB.out.trans (HB34.out.mono HQ.out))
      have HO4 := Lib.hid (HO.out.below (by rw [hq]; exact HB34.out))
      have sg := sgn_cell (HS.out.below HBw.out) hm1 hm4
      have hsg : (bs (signT (m : Int))).size ≤ 1 := by rw [bs_size]; exact sgn_len _
      generalize bs (signT (m : Int)) = sgn at *
      have z0 := block_cell HBK4.out 0
      have z1 := block_cell HBK4.out 1
      have hc1 : ¬ 9223372036854775807 < nm.size + sgn.size := by omega
      have hc2 : ¬ 9223372036854775807 < nm.size + sgn.size + sh.size := by omega
      have hm5 : (m : Int) < 5 := by omega
      have hm0 : (0 : Int) ≤ (m : Int) := Int.natCast_nonneg m
      have HOD : Hid (Own (w4.alloc (.cells #[.string (nm ++ sgn ++ sh)] 9)).drew w.heap.size 9 1 (.slice A5 k c5) k (wv ((ts.take k).map tstT))) := (HO4.out.alloc _).below ((Below.refl _ _).drew)
      have HND : Hid (∀ j u, ([.string (nm ++ sgn ++ sh)] : List Value)[j]? = some u → (w4.alloc (.cells #[.string (nm ++ sgn ++ sh)] 9)).drew.cell? ⟨w4.heap.size, j, none⟩ = some u) := fun j u hj => by
        show (w4.alloc (.cells #[.string (nm ++ sgn ++ sh)] 9)).cell? ⟨w4.heap.size, j, none⟩ = some u
        rw [World.cell?_alloc_at _ _ _ _ rfl]; simpa using hj
      have hA4 := HBw.out.alloc HBw.out.size (.cells #[.string (nm ++ sgn ++ sh)] 9)
      have HA4 := Lib.hid hA4
      clear HO HO4 hA4 y1
      go_upto_region 11 with fail
      go_region_law
        (first
          | (refine step_here rfl ?_
             refine wp_append_q _ (.tmp 29) (.tmp 39) _ rfl w.heap.size 9 i0 (.string .empty) 1 16 Tryd.underlying22 ei ez ez1 ez2 rfl (by decide) (.slice A5 k c5) k (wv ((ts.take k).map tstT)) rfl HOD.out (some ⟨w4.heap.size, 0, none⟩) 1 1 [.string (nm ++ sgn ++ sh)] rfl rfl (fun _ => ⟨_, rfl, fun j u hj => by rw [addr_add, Nat.zero_add]; exact HND.out j u hj⟩) (fun u hu => by simp at hu; subst hu; rfl) (by unfold maxLen; omega) (by omega) (show w.heap.size ≤ (w4.alloc (.cells #[.string (nm ++ sgn ++ sh)] 9)).heap.size from HA4.out.size) ?_
             intro v9 w9 hown9 hg9 hat9))
      all_goals
        have hB9 : Below w.heap.size w w9 := HA4.out.drew.grown hg9 HA4.out.drew.size (fun kk e => (HOD.out.lt kk e).1)
        have HB9 := Lib.hid hB9
        have HO9 : Hid (Own w9 w.heap.size 9 1 v9 (k + 1) (wv ((ts.take (k + 1)).map tstT))) := by unfold Hid; rw [HSN.out, ← HTX.out]; exact hown9
        clear hg9 hat9 hown9 HOD HND hB9 sg z0 z1
        go_wp2_with fail
        -- a round's end: the relation, the measure
        apply Rounded.at _ _ _ _ _ rfl rfl rfl rfl rfl rfl
        case rel => exact ⟨k + 1, by omega, by go_num, HB9, by first | exact HO9 | (have h := HO9.out; rw [List.map_take] at h; exact h)⟩
        case measure => simp [intOf]; omega
    · obtain rfl : k = ts.length := by omega
      have HO2 : Hid (Own wo w.heap.size 9 1 (.slice A5 ts.length c5) (ts.map tstT).length (wv (ts.map tstT))) := by
        have := HO.out
        rw [List.take_length] at this
        unfold Hid; rw [List.length_map]; exact this
      by_cases h0 : ts.length = 0
      · have HE0 : Hid (tstsT ts = []) := by unfold Hid tstsT; rw [if_pos (List.length_eq_zero_iff.1 h0)]
        have h0b : ((ts.length : Int) == 0) = true := by rw [h0]; rfl
        clear h0 HO HO2 hlt hk
        go_wp2_with fail
        go_ret2
        exact ⟨by rw [HE0.out]; rfl, HB.out⟩
      · have HE0 : Hid (tstsT ts = 91 :: (Lib.join (ts.map tstT) [44] ++ [93])) := by unfold Hid tstsT; rw [if_neg (fun e => h0 (by rw [e]; rfl))]
        have h0b : ((ts.length : Int) == 0) = false := by rw [beq_eq_false_iff_ne]; omega
        have hlm : (ts.map tstT).length = ts.length := List.length_map _
        obtain ⟨g9, o9, c9, hv9, _, _⟩ := HO2.out.addr (by omega)
        injection hv9 with e1 e2 e3
        subst e1
        subst e3
        have hjl := tsts_len HOK.out
        have hx := join_own w.heap.size wo g9 o9 c5 (ts.map tstT) [44] (by have h9 := HO2.out; rw [hlm] at h9 ⊢; exact h9) (by omega) (by omega) (by omega)
        rw [hlm] at hx
        have hjs : (bs (Lib.join (ts.map tstT) [44])).size ≤ 416 := by rw [bs_size]; omega
        have HTX : Hid (⟨#[91]⟩ ++ bs (Lib.join (ts.map tstT) [44]) ++ ⟨#[93]⟩ = bs (tstsT ts)) := by
          unfold Hid
          show bs [91] ++ _ ++ bs [93] = _
          rw [HE0.out, bs_append, bs_append]; rfl
        generalize bs (Lib.join (ts.map tstT) [44]) = jn at *
        have hc1 : ¬ 9223372036854775807 < 1 + jn.size := by omega
        have hc2 : ¬ 9223372036854775807 < 1 + jn.size + 1 := by omega
        clear h0 HO HO2 hlt hk e2 hjl hlm
        go_wp2_with fail
        refine hx.mono ?_
        clear hx
        rintro e w8 ⟨rfl, hb8⟩
        go_wp2_with fail
        go_ret2
        exact ⟨by rw [← HTX.out]; rfl, HB.out.trans (hb8.mono HB.out.size)⟩
end Go.Proofs.YtakidgndipnciaaDoor
