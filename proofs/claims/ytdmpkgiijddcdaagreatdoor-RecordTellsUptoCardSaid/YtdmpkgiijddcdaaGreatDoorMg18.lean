/- Parts: RsP, RfR, RefB, RefC, RefD, RefE, RefW, RefF. -/
import Derived.Test.YtdmpkgiijddcdaaGreatDoorMg08
import Derived.Test.YtdmpkgiijddcdaaGreatDoorMg15
import Derived.Test.YtdmpkgiijddcdaaGreatDoorMg05
import Derived.Test.YtdmpkgiijddcdaaGreatDoorMg04
import Derived.Test.YtdmpkgiijddcdaaGreatDoorMg07
/- Plain: what the document's Set and Unset make of a record. No condition. -/
namespace Go.Proofs.YtdmpkgiijddcdaaGreatDoor
open Go

def rSetStep (p : Prp) (st : List Prp × Bool) (q : Prp) : List Prp × Bool :=
  let s1 := if !st.2 && decide (0 ≤ cmpS q.name p.name) then (st.1 ++ [p], true) else st
  if q.name = p.name then s1 else (s1.1 ++ [q], s1.2)
def rSetL (r : List Prp) (p : Prp) : List Prp :=
  let st := r.foldl (rSetStep p) ([], false)
  if st.2 then st.1 else st.1 ++ [p]
theorem fold_low (p : Prp) : ∀ (l : List Prp) (acc : List Prp), (∀ q ∈ l, cmpS q.name p.name < 0) → l.foldl (rSetStep p) (acc, false) = (acc ++ l, false)
  | [], acc, _ => by simp
  | q :: l, acc, h => by
    have h1 := h q (by simp)
    have h2 : ¬ q.name = p.name := fun e => by have := cmpS_zero.2 e; omega
    have e : rSetStep p (acc, false) q = (acc ++ [q], false) := by
      unfold rSetStep
      have : decide (0 ≤ cmpS q.name p.name) = false := decide_eq_false (by omega)
      simp [this, h2]
    rw [List.foldl_cons, e, fold_low p l _ (fun x hx => h x (by simp [hx]))]
    simp
theorem fold_put (p : Prp) : ∀ (l : List Prp) (acc : List Prp), (∀ q ∈ l, ¬ q.name = p.name) → l.foldl (rSetStep p) (acc, true) = (acc ++ l, true)
  | [], acc, _ => by simp
  | q :: l, acc, h => by
    have e : rSetStep p (acc, true) q = (acc ++ [q], true) := by
      unfold rSetStep
      simp [h q (by simp)]
    rw [List.foldl_cons, e, fold_put p l _ (fun x hx => h x (by simp [hx]))]
    simp
theorem rSet_eq {r : List Prp} (h : recE r = 0) (p : Prp) : rSetL r p = putP r p := by
  have hch := (rec_ok h).2.2
  have hlow : ∀ q ∈ r.take (rpos r p.name), cmpS q.name p.name < 0 := fun q hq => by
    obtain ⟨i, hi⟩ := List.mem_iff_getElem?.1 hq
    rw [List.getElem?_take] at hi
    split at hi
    · rename_i hlt; exact low_lt (c := prpC p.name) hlt hi
    · cases hi
  have hsplit : r.foldl (rSetStep p) ([], false) = (r.drop (rpos r p.name)).foldl (rSetStep p) (r.take (rpos r p.name), false) := by
    conv => lhs; rw [← List.take_append_drop (rpos r p.name) r]
    rw [List.foldl_append, fold_low p _ _ hlow, List.nil_append]
  unfold rSetL putP
  rw [hsplit]
  cases hq : rhas r p.name with
  | true =>
    rw [if_pos rfl]
    have hq' := hq
    unfold rhas eqAt at hq'
    cases hd : r[rpos r p.name]? with
    | none => rw [hd] at hq'; cases hq'
    | some q0 =>
      rw [hd] at hq'
      have h0 : prpC p.name q0 = 0 := by simpa using hq'
      have hn : q0.name = p.name := cmpS_zero.1 h0
      obtain ⟨hl, hg⟩ := List.getElem?_eq_some_iff.1 hd
      have hdrop : r.drop (rpos r p.name) = q0 :: r.drop (rpos r p.name + 1) := by rw [List.drop_eq_getElem_cons hl, hg]
      have hrest : ∀ x ∈ r.drop (rpos r p.name + 1), ¬ x.name = p.name := fun x hx => by
        have hpw := (chain_pw prpLt_tr).1 hch
        have h2 : (r.drop (rpos r p.name)).Pairwise fun a b => prpLt a b = true := hpw.sublist (List.drop_sublist _ _)
        rw [hdrop, List.pairwise_cons] at h2
        have h3 := prpLt_iff.1 (h2.1 x hx)
        rw [hn] at h3
        intro e
        rw [e] at h3
        have := (cmpS_zero (a := p.name) (b := p.name)).2 rfl
        omega
      have e : rSetStep p (r.take (rpos r p.name), false) q0 = (r.take (rpos r p.name) ++ [p], true) := by
        unfold rSetStep
        have : decide (0 ≤ cmpS q0.name p.name) = true := decide_eq_true (by rw [hn, (cmpS_zero (a := p.name) (b := p.name)).2 rfl]; omega)
        simp [hn, (cmpS_zero (a := p.name) (b := p.name)).2 rfl]
      rw [hdrop, List.foldl_cons, e, fold_put p _ _ hrest]
      simp only [if_true]
      rw [List.set_eq_take_append_cons_drop, if_pos hl, List.append_assoc]
      rfl
  | false =>
    rw [if_neg (show ¬ (false = true) by simp)]
    obtain ⟨_, b2⟩ := low_parts hch (prpC_mono p.name) hq (prp_hz p.name)
    show (let st := (r.drop (rpos r p.name)).foldl (rSetStep p) (r.take (rpos r p.name), false); if st.2 then st.1 else st.1 ++ [p]) = r.take (rpos r p.name) ++ p :: r.drop (rpos r p.name)
    have b2 : ∀ d ∈ r.drop (rpos r p.name), 0 < prpC p.name d := b2
    cases hd : r.drop (rpos r p.name) with
    | nil => simp
    | cons q0 rest =>
      rw [hd] at b2
      have h0 := b2 q0 (by simp)
      unfold prpC at h0
      have hn : ∀ x ∈ q0 :: rest, ¬ x.name = p.name := fun x hx e => by
        have h1 := b2 x hx
        unfold prpC at h1
        rw [cmpS_zero.2 e] at h1
        omega
      have e : rSetStep p (r.take (rpos r p.name), false) q0 = (r.take (rpos r p.name) ++ [p] ++ [q0], true) := by
        unfold rSetStep
        have h1 : decide (0 ≤ cmpS q0.name p.name) = true := decide_eq_true (by omega)
        simp [h1, hn q0 (by simp)]
      rw [List.foldl_cons, e, fold_put p rest _ (fun x hx => hn x (by simp [hx]))]
      simp
theorem put_len (r : List Prp) (p : Prp) : (putP r p).length = if rhas r p.name = true then r.length else r.length + 1 := by
  unfold putP
  split
  · simp
  · have : rpos r p.name ≤ r.length := lowI_le _ _
    simp; omega
/-- What the document's Set tells: of a record that is right. -/
theorem rset_parts {r : List Prp} (h : recE r = 0) (p : Prp) : (prpE p ≠ 0 → setE r p = prpE p ∧ setR r p = []) ∧ (prpE p = 0 → 8 < (rSetL r p).length → setE r p = 4 ∧ setR r p = []) ∧ (prpE p = 0 → ¬ 8 < (rSetL r p).length → setE r p = 0 ∧ setR r p = rSetL r p) := by
  have hl := (rec_ok h).1
  have e0 : setE r p = if prpE p = 0 then (if rhas r p.name then 0 else if 8 ≤ r.length then 4 else 0) else prpE p := by unfold setE; rw [if_pos h]
  rw [rSet_eq h, put_len]
  refine ⟨fun hp => ?_, fun hp hb => ?_, fun hp hb => ?_⟩
  · rw [if_neg hp] at e0
    exact ⟨e0, by unfold setR; rw [if_neg (by rw [e0]; exact hp)]⟩
  · have e1 : setE r p = 4 := by
      rw [e0, if_pos hp]
      split at hb
      · omega
      · rename_i hq; rw [if_neg hq, if_pos (by omega)]
    exact ⟨e1, by unfold setR; rw [if_neg (by rw [e1]; omega)]⟩
  · have e1 : setE r p = 0 := by
      rw [e0, if_pos hp]
      split at hb
      · rename_i hq; rw [if_pos hq]
      · rename_i hq; rw [if_neg hq, if_neg (by omega)]
    exact ⟨e1, by unfold setR; rw [if_pos e1]⟩
def rUnsL (r : List Prp) (nm : ByteArray) : List Prp := r.filter fun q => decide (¬ q.name = nm)
theorem rUns_eq {r : List Prp} (h : recE r = 0) (nm : ByteArray) : (rhas r nm = true → rUnsL r nm = unsetR r nm ∧ unsetE r nm = 0 ∧ (rUnsL r nm).length < r.length) ∧ (rhas r nm = false → unsetE r nm = 5 ∧ unsetR r nm = [] ∧ ¬ (rUnsL r nm).length < r.length) := by
  have hch := (rec_ok h).2.2
  refine ⟨fun hq => ?_, fun hq => ?_⟩
  · have e1 : unsetE r nm = 0 := by unfold unsetE; rw [if_pos h, if_pos hq]
    have hq' := hq
    unfold rhas eqAt at hq'
    cases hd : r[rpos r nm]? with
    | none => rw [hd] at hq'; cases hq'
    | some q0 =>
      rw [hd] at hq'
      have h0 : prpC nm q0 = 0 := by simpa using hq'
      have hn : q0.name = nm := cmpS_zero.1 h0
      obtain ⟨hl, hg⟩ := List.getElem?_eq_some_iff.1 hd
      have hdrop : r.drop (rpos r nm) = q0 :: r.drop (rpos r nm + 1) := by rw [List.drop_eq_getElem_cons hl, hg]
      have hrest : ∀ x ∈ r.drop (rpos r nm + 1), ¬ x.name = nm := fun x hx => by
        have hpw := (chain_pw prpLt_tr).1 hch
        have h2 : (r.drop (rpos r nm)).Pairwise fun a b => prpLt a b = true := hpw.sublist (List.drop_sublist _ _)
        rw [hdrop, List.pairwise_cons] at h2
        have h3 := prpLt_iff.1 (h2.1 x hx)
        rw [hn] at h3
        intro e
        rw [e] at h3
        have := (cmpS_zero (a := nm) (b := nm)).2 rfl
        omega
      have hlow : ∀ x ∈ r.take (rpos r nm), ¬ x.name = nm := fun x hx e => by
        obtain ⟨i, hi⟩ := List.mem_iff_getElem?.1 hx
        rw [List.getElem?_take] at hi
        split at hi
        · rename_i hlt
          have := low_lt (c := prpC nm) hlt hi
          unfold prpC at this
          rw [cmpS_zero.2 e] at this
          omega
        · cases hi
      have e2 : rUnsL r nm = r.take (rpos r nm) ++ r.drop (rpos r nm + 1) := by
        unfold rUnsL
        conv => lhs; rw [← List.take_append_drop (rpos r nm) r]
        rw [List.filter_append, hdrop, List.filter_cons, if_neg (by simp [hn])]
        rw [List.filter_eq_self.2 (fun x hx => decide_eq_true (hlow x hx)), List.filter_eq_self.2 (fun x hx => decide_eq_true (hrest x hx))]
      refine ⟨?_, e1, ?_⟩
      · rw [e2]; unfold unsetR; rw [if_pos e1]
      · rw [e2, List.length_append, List.length_take, List.length_drop]; omega
  · have e1 : unsetE r nm = 5 := by unfold unsetE; rw [if_pos h, if_neg (by rw [hq]; simp)]
    refine ⟨e1, by unfold unsetR; rw [if_neg (by rw [e1]; omega)], ?_⟩
    have e2 : rUnsL r nm = r := by
      unfold rUnsL
      refine List.filter_eq_self.2 fun x hx => decide_eq_true fun e => ?_
      have := (rhas_mem h nm).2 ⟨x, hx, e⟩
      rw [hq] at this; cases this
    rw [e2]; omega
open Go Go.RowKit

theorem str_any0 {s : ByteArray} (h : ∀ j x, j < s.size → s.data.toList[j]? = some x → strC x = false) : s.data.toList.any strC = false := by
  rw [List.any_eq_false]
  intro x hx
  obtain ⟨j, hj⟩ := List.mem_iff_getElem?.1 hx
  have hl := (List.getElem?_eq_some_iff.1 hj).1
  have := h j x (by simpa using hl) hj
  simp [this]
theorem str_any1 {s : ByteArray} {k : Nat} {x : UInt8} (h : s.data.toList[k]? = some x) (hx : strC x = true) : s.data.toList.any strC = true :=
  List.any_eq_true.2 ⟨x, List.mem_of_getElem? h, hx⟩
set_option maxRecDepth 100000 in
set_option maxHeartbeats 4000000 in
theorem rvalue_any (v : Val) (w : World) (hs : Sm v.s) :
    Calls Tryz.prog 11 #[.agg #[.int .i64 v.ty, .int .i64 v.n, .string v.s]] w fun e w' => e = .returned (.int .i64 (valE v)) ∧ Below w.heap.size w w' := by
  obtain ⟨ty, n, s⟩ := v
  have hs : s.size ≤ 1048576 := hs
  have hb0 : Below w.heap.size w (w.alloc (.cells #[.int .i64 ty, .int .i64 n, .string s] 43)) := (Below.refl _ _).alloc (Nat.le_refl _) _
  have HF : Hid (valE ⟨ty, n, s⟩ = if ty = 1 ∨ ty = 2 ∨ ty = 3 then (if n < valLo ty ∨ valHi ty < n then 1 else if ty = 3 ∧ 20 < s.size then 4 else if s.data.toList.any strC = true ∨ (ty ≠ 3 ∧ s.toList.isEmpty = false) then 2 else 0) else 8) := rfl
  by_cases h0 : ty < 1
  · have HE : Hid (valE ⟨ty, n, s⟩ = 8) := by unfold Hid; rw [HF.out, if_neg (by omega)]
    clear HF
    go_enter Tryz.func11, Tryz.ntmps11
    go_wp2_with fail
    go_ret
    exact ⟨by rw [HE.out]; rfl, hb0⟩
  by_cases h4 : 3 < ty
  · have h0' : 1 ≤ ty := by omega
    have HE : Hid (valE ⟨ty, n, s⟩ = 8) := by unfold Hid; rw [HF.out, if_neg (by omega)]
    clear h0
    clear HF
    go_enter Tryz.func11, Tryz.ntmps11
    go_wp2_with fail
    go_ret
    exact ⟨by rw [HE.out]; rfl, hb0⟩
  have h3 : ty = 1 ∨ ty = 2 ∨ ty = 3 := by omega
  rcases h3 with rfl | rfl | rfl
  · by_cases h1 : n < -1000000
    · have HE : Hid (valE ⟨1, n, s⟩ = 1) := by unfold Hid; rw [HF.out, if_pos (.inl rfl), if_pos (.inl h1)]
      clear h0 h4
      clear HF
      go_enter Tryz.func11, Tryz.ntmps11
      go_wp2_with fail
      go_ret
      exact ⟨by rw [HE.out]; rfl, hb0⟩
    have h1' : -1000000 ≤ n := by omega
    by_cases h2 : 1000000 < n
    · have HE : Hid (valE ⟨1, n, s⟩ = 1) := by unfold Hid; rw [HF.out, if_pos (.inl rfl), if_pos (.inr h2)]
      clear h0 h4 h1
      clear HF
      go_enter Tryz.func11, Tryz.ntmps11
      go_wp2_with fail
      go_ret
      exact ⟨by rw [HE.out]; rfl, hb0⟩
    have h2' : n ≤ 1000000 := by omega
    have HG : Hid (valE ⟨1, n, s⟩ = if s.data.toList.any strC = true ∨ s.toList.isEmpty = false then 2 else 0) := by
      unfold Hid
      rw [HF.out, if_pos (.inl rfl), if_neg (by rintro (h | h); exact h1 h; exact h2 h), if_neg (by omega)]
      simp
    cases he : s.toList.isEmpty with
    | false =>
      have hq : ¬ s.toList = [] := by intro e; rw [e] at he; cases he
      have HE : Hid (valE ⟨1, n, s⟩ = 2) := by unfold Hid; rw [HG.out, if_pos (.inr he)]
      clear h0 h4 h1 h2 HG
      clear HF
      go_enter Tryz.func11, Tryz.ntmps11
      go_wp2_with fail
      go_ret
      exact ⟨by rw [HE.out]; rfl, hb0⟩
    | true =>
      have hq : s.toList = [] := by simpa using he
      have HS1 : Hid (∀ (k : Nat) x, s.data.toList[k]? = some x → strC x = true → valE ⟨1, n, s⟩ = 2) := fun k x hk hx => by rw [HG.out, if_pos (.inl (str_any1 hk hx))]
      have HS0 : Hid ((∀ j x, j < s.size → s.data.toList[j]? = some x → strC x = false) → valE ⟨1, n, s⟩ = 0) := fun h => by rw [HG.out, str_any0 h, he]; rfl
      clear h0 h4 h1 h2 HG HF
      go_enter Tryz.func11, Tryz.ntmps11
      go_wp2_with fail
      go_loop [3] (fun i => ∃ k : Nat, k ≤ s.size ∧ i = .int .i64 k ∧ Hid (∀ j x, j < k → s.data.toList[j]? = some x → strC x = false)) (fun i => s.size - (intOf i).toNat)
      case atStart => exact ⟨0, Nat.zero_le _, rfl, fun j x hj => absurd hj (Nat.not_lt_zero _)⟩
      case round =>
        obtain ⟨k, hk, rfl, HA⟩ := hrel
        by_cases hlt : k < s.size
        · have hlt' : (k : Int) < (s.size : Int) := by omega
          have HB := Lib.hid (bytes_at s k hlt)
          by_cases hlo : (s[k].toNat : Int) < 32
          · have HE : Hid (valE ⟨1, n, s⟩ = 2) := HS1.out _ _ HB.out (by unfold strC; rw [decide_eq_true hlo]; rfl)
            go_wp2_with fail
            go_ret
            exact ⟨by rw [HE.out]; rfl, hb0⟩
          · have hlo' : (32 : Int) ≤ (s[k].toNat : Int) := by omega
            by_cases hhi : (126 : Int) < (s[k].toNat : Int)
            · have HE : Hid (valE ⟨1, n, s⟩ = 2) := HS1.out _ _ HB.out (by unfold strC; rw [decide_eq_true hhi]; simp)
              clear hlo
              go_wp2_with fail
              go_ret
              exact ⟨by rw [HE.out]; rfl, hb0⟩
            · have hhi' : (s[k].toNat : Int) ≤ 126 := by omega
              have HS : Hid (∀ j x, j < k + 1 → s.data.toList[j]? = some x → strC x = false) := miss_step HA.out HB.out (by unfold strC; rw [decide_eq_false hlo, decide_eq_false hhi]; rfl)
              clear hlo hhi
              go_wp2_with fail
              go_round
              case rel => exact ⟨k + 1, by omega, by go_num, HS⟩
              case measure => simp [intOf]; omega
        · obtain rfl : k = s.size := by omega
          have HE : Hid (valE ⟨1, n, s⟩ = 0) := HS0.out HA.out
          go_wp2_with fail
          go_ret
          exact ⟨by rw [HE.out]; rfl, hb0⟩
  · by_cases h1 : n < 0
    · have HE : Hid (valE ⟨2, n, s⟩ = 1) := by unfold Hid; rw [HF.out, if_pos (.inr (.inl rfl)), if_pos (.inl h1)]
      clear h0 h4
      clear HF
      go_enter Tryz.func11, Tryz.ntmps11
      go_wp2_with fail
      go_ret
      exact ⟨by rw [HE.out]; rfl, hb0⟩
    have h1' : 0 ≤ n := by omega
    by_cases h2 : 1 < n
    · have HE : Hid (valE ⟨2, n, s⟩ = 1) := by unfold Hid; rw [HF.out, if_pos (.inr (.inl rfl)), if_pos (.inr h2)]
      clear h0 h4 h1
      clear HF
      go_enter Tryz.func11, Tryz.ntmps11
      go_wp2_with fail
      go_ret
      exact ⟨by rw [HE.out]; rfl, hb0⟩
    have h2' : n ≤ 1 := by omega
    have HG : Hid (valE ⟨2, n, s⟩ = if s.data.toList.any strC = true ∨ s.toList.isEmpty = false then 2 else 0) := by
      unfold Hid
      rw [HF.out, if_pos (.inr (.inl rfl)), if_neg (by rintro (h | h); exact h1 h; exact h2 h), if_neg (by omega)]
      simp
    cases he : s.toList.isEmpty with
    | false =>
      have hq : ¬ s.toList = [] := by intro e; rw [e] at he; cases he
      have HE : Hid (valE ⟨2, n, s⟩ = 2) := by unfold Hid; rw [HG.out, if_pos (.inr he)]
      clear h0 h4 h1 h2 HG
      clear HF
      go_enter Tryz.func11, Tryz.ntmps11
      go_wp2_with fail
      go_ret
      exact ⟨by rw [HE.out]; rfl, hb0⟩
    | true =>
      have hq : s.toList = [] := by simpa using he
      have HS1 : Hid (∀ (k : Nat) x, s.data.toList[k]? = some x → strC x = true → valE ⟨2, n, s⟩ = 2) := fun k x hk hx => by rw [HG.out, if_pos (.inl (str_any1 hk hx))]
      have HS0 : Hid ((∀ j x, j < s.size → s.data.toList[j]? = some x → strC x = false) → valE ⟨2, n, s⟩ = 0) := fun h => by rw [HG.out, str_any0 h, he]; rfl
      clear h0 h4 h1 h2 HG HF
      go_enter Tryz.func11, Tryz.ntmps11
      go_wp2_with fail
      go_loop [3] (fun i => ∃ k : Nat, k ≤ s.size ∧ i = .int .i64 k ∧ Hid (∀ j x, j < k → s.data.toList[j]? = some x → strC x = false)) (fun i => s.size - (intOf i).toNat)
      case atStart => exact ⟨0, Nat.zero_le _, rfl, fun j x hj => absurd hj (Nat.not_lt_zero _)⟩
      case round =>
        obtain ⟨k, hk, rfl, HA⟩ := hrel
        by_cases hlt : k < s.size
        · have hlt' : (k : Int) < (s.size : Int) := by omega
          have HB := Lib.hid (bytes_at s k hlt)
          by_cases hlo : (s[k].toNat : Int) < 32
          · have HE : Hid (valE ⟨2, n, s⟩ = 2) := HS1.out _ _ HB.out (by unfold strC; rw [decide_eq_true hlo]; rfl)
            go_wp2_with fail
            go_ret
            exact ⟨by rw [HE.out]; rfl, hb0⟩
          · have hlo' : (32 : Int) ≤ (s[k].toNat : Int) := by omega
            by_cases hhi : (126 : Int) < (s[k].toNat : Int)
            · have HE : Hid (valE ⟨2, n, s⟩ = 2) := HS1.out _ _ HB.out (by unfold strC; rw [decide_eq_true hhi]; simp)
              clear hlo
              go_wp2_with fail
              go_ret
              exact ⟨by rw [HE.out]; rfl, hb0⟩
            · have hhi' : (s[k].toNat : Int) ≤ 126 := by omega
              have HS : Hid (∀ j x, j < k + 1 → s.data.toList[j]? = some x → strC x = false) := miss_step HA.out HB.out (by unfold strC; rw [decide_eq_false hlo, decide_eq_false hhi]; rfl)
              clear hlo hhi
              go_wp2_with fail
              go_round
              case rel => exact ⟨k + 1, by omega, by go_num, HS⟩
              case measure => simp [intOf]; omega
        · obtain rfl : k = s.size := by omega
          have HE : Hid (valE ⟨2, n, s⟩ = 0) := HS0.out HA.out
          go_wp2_with fail
          go_ret
          exact ⟨by rw [HE.out]; rfl, hb0⟩
  · by_cases h1 : n = 0
    case neg =>
      have hnb : (n != 0) = true := by simpa using h1
      have HE : Hid (valE ⟨3, n, s⟩ = 1) := by
        unfold Hid
        rw [HF.out, if_pos (.inr (.inr rfl)), if_pos]
        have e1 : valLo 3 = 0 := rfl
        have e2 : valHi 3 = 0 := rfl
        rw [e1, e2]; omega
      clear h0 h4 h1
      clear HF
      go_enter Tryz.func11, Tryz.ntmps11
      go_wp2_with fail
      go_ret
      exact ⟨by rw [HE.out]; rfl, hb0⟩
    subst h1
    by_cases h2 : 20 < s.size
    · have h2' : (20 : Int) < (s.size : Int) := by omega
      have HE : Hid (valE ⟨3, 0, s⟩ = 4) := by unfold Hid; rw [HF.out, if_pos (.inr (.inr rfl)), if_neg (by simp [valLo, valHi]), if_pos ⟨rfl, h2⟩]
      clear h0 h4
      clear HF
      go_enter Tryz.func11, Tryz.ntmps11
      go_wp2_with fail
      go_ret
      exact ⟨by rw [HE.out]; rfl, hb0⟩
    have h2' : (s.size : Int) ≤ 20 := by omega
    have HG : Hid (valE ⟨3, 0, s⟩ = if s.data.toList.any strC = true then 2 else 0) := by
      unfold Hid
      rw [HF.out, if_pos (.inr (.inr rfl)), if_neg (by simp [valLo, valHi]), if_neg (by omega)]
      simp
    have HS1 : Hid (∀ (k : Nat) x, s.data.toList[k]? = some x → strC x = true → valE ⟨3, 0, s⟩ = 2) := fun k x hk hx => by rw [HG.out, if_pos (str_any1 hk hx)]
    have HS0 : Hid ((∀ j x, j < s.size → s.data.toList[j]? = some x → strC x = false) → valE ⟨3, 0, s⟩ = 0) := fun h => by rw [HG.out, str_any0 h]; rfl
    clear h0 h4 h2 HG HF
    go_enter Tryz.func11, Tryz.ntmps11
    go_wp2_with fail
    go_loop [3] (fun i => ∃ k : Nat, k ≤ s.size ∧ i = .int .i64 k ∧ Hid (∀ j x, j < k → s.data.toList[j]? = some x → strC x = false)) (fun i => s.size - (intOf i).toNat)
    case atStart => exact ⟨0, Nat.zero_le _, rfl, fun j x hj => absurd hj (Nat.not_lt_zero _)⟩
    case round =>
      obtain ⟨k, hk, rfl, HA⟩ := hrel
      by_cases hlt : k < s.size
      · have hlt' : (k : Int) < (s.size : Int) := by omega
        have HB := Lib.hid (bytes_at s k hlt)
        by_cases hlo : (s[k].toNat : Int) < 32
        · have HE : Hid (valE ⟨3, 0, s⟩ = 2) := HS1.out _ _ HB.out (by unfold strC; rw [decide_eq_true hlo]; rfl)
          go_wp2_with fail
          go_ret
          exact ⟨by rw [HE.out]; rfl, hb0⟩
        · have hlo' : (32 : Int) ≤ (s[k].toNat : Int) := by omega
          by_cases hhi : (126 : Int) < (s[k].toNat : Int)
          · have HE : Hid (valE ⟨3, 0, s⟩ = 2) := HS1.out _ _ HB.out (by unfold strC; rw [decide_eq_true hhi]; simp)
            clear hlo
            go_wp2_with fail
            go_ret
            exact ⟨by rw [HE.out]; rfl, hb0⟩
          · have hhi' : (s[k].toNat : Int) ≤ 126 := by omega
            have HS : Hid (∀ j x, j < k + 1 → s.data.toList[j]? = some x → strC x = false) := miss_step HA.out HB.out (by unfold strC; rw [decide_eq_false hlo, decide_eq_false hhi]; rfl)
            clear hlo hhi
            go_wp2_with fail
            go_round
            case rel => exact ⟨k + 1, by omega, by go_num, HS⟩
            case measure => simp [intOf]; omega
      · obtain rfl : k = s.size := by omega
        have HE : Hid (valE ⟨3, 0, s⟩ = 0) := HS0.out HA.out
        go_wp2_with fail
        go_ret
        exact ⟨by rw [HE.out]; rfl, hb0⟩

def fls (w : World) (b : Nat) : Nat := match w.heap[b]? with | some (.cells c _ _) => c.toList.countP (fun v => match v with | .bool false => true | _ => false) | _ => 0





theorem nameE_two {s : ByteArray} (h : nameE s ≠ 0) : nameE s = 2 := by
  unfold nameE at h ⊢
  split
  · rfl
  · rename_i h1
    rw [if_neg h1] at h
    split
    · rfl
    · rename_i h2
      rw [if_neg h2] at h
      split
      · rfl
      · rename_i h3; rw [if_neg h3] at h; exact absurd rfl h
end Go.Proofs.YtdmpkgiijddcdaaGreatDoor
