/- Parts: SamS, IntS, GtA, GtD, FarP, FarW, RsP, RfR, RefW, RefF. -/
import Derived.Test.YtngbbefpphinjaaGreatDoorMg17
import Derived.Test.YtngbbefpphinjaaGreatDoorMg02
import Derived.Test.YtngbbefpphinjaaGreatDoorMg04
import Derived.Deep.DeepCutAuto
import Derived.Test.YtngbbefpphinjaaGreatDoorMg13
import Derived.Test.YtngbbefpphinjaaGreatDoorMg14
import Derived.Test.YtngbbefpphinjaaGreatDoorMg18
import Derived.Test.YtngbbefpphinjaaGreatDoorMg05
import Derived.Test.YtngbbefpphinjaaGreatDoorMg01
import Derived.Test.YtngbbefpphinjaaGreatDoorMg16
import Derived.Test.YtngbbefpphinjaaGreatDoorMg12
/- Contract: kinsame.Schema, at two that read the same. No condition. -/
namespace Go.Proofs.YtngbbefpphinjaaGreatDoor
open Go Go.RowKit
set_option maxHeartbeats 1000000 in
theorem ints_any_q (a b : List Int) (va vb : Value) (w : World) (ha : Sl intL w va a) (hb : Sl intL w vb b) : Calls Tryz.prog 26 #[va, vb] w fun e w' => e = .returned (.bool (decide (a = b))) /\ ∃ m, w' = w.drewN m := by
 obtain ⟨A, c, rfl, _, hcm⟩ := ha.form
 obtain ⟨B, d, rfl, _, hdm⟩ := hb.form
 unfold maxLen at hcm hdm
 by_cases hl : a.length = b.length
 case neg =>
  have HE : Hid (decide (a = b) = false) := decide_eq_false fun e => hl (by rw [e])
  have hl' : decide ((a.length : Int) = (b.length : Int)) = false := decide_eq_false (by omega)
  have hl2 : ((a.length : Int) == (b.length : Int)) = false := by rw [beq_eq_false_iff_ne]; omega
  clear ha hb hl
  go_enter Tryz.func26, Tryz.ntmps26
  go_wp2_with fail
  go_ret
  exact ⟨by rw [HE.out]; rfl, 0, rfl⟩
 have HL := Lib.hid hl
 have hlb : a.length <= b.length := by omega
 rw [<- hl]
 clear hl
 go_enter Tryz.func26, Tryz.ntmps26
 go_wp2_with fail
 go_loopw [5] (fun i wr => ∃ k : Nat, k <= a.length /\ i = .int .i64 k /\ Below w.heap.size w wr /\ Hid (∃ m, wr = w.drewN m) /\ Hid (∀ j x y, j < k -> a[j]? = some x -> b[j]? = some y -> x = y)) (fun i _ => a.length - (intOf i).toNat)
 case atStart => exact ⟨0, Nat.zero_le _, rfl, Below.refl _ _, ⟨0, rfl⟩, fun j x y hj => absurd hj (Nat.not_lt_zero _)⟩
 obtain ⟨k, hk, rfl, hbr, HM, HA⟩ := hrel
 by_cases hlt : k < a.length
 ·obtain ⟨x, hx⟩ : ∃ d, a[k]? = some d := ⟨_, List.getElem?_eq_getElem hlt⟩
  obtain ⟨y, hy⟩ : ∃ d, b[k]? = some d := ⟨_, List.getElem?_eq_getElem (by omega)⟩
  have hlt' : (k : Int) < (a.length : Int) := by omega
  obtain ⟨b1, o1, rfl, _, x0⟩ := int_at (ha.below hbr) hx
  obtain ⟨b2, o2, rfl, _, y0⟩ := int_at (hb.below hbr) hy
  have HX := Lib.hid hx
  have HY := Lib.hid hy
  clear hx hy
  by_cases hq : x = y
  ·have HS : Hid (∀ j x y, j < k + 1 -> a[j]? = some x -> b[j]? = some y -> x = y) := fun j p q hj hp hq2 => by
    by_cases hjk : j = k
    ·subst hjk
     have e1 := HX.out.symm.trans hp
     have e2 := HY.out.symm.trans hq2
     injection e1 with e1; injection e2 with e2
     rw [<- e1, <- e2]; exact hq
    exact HA.out j p q (by omega) hp hq2
   subst hq
   clear ha hb
   go_wp2_with fail
   go_quiet (fail)
   go_wp2_with fail
   go_roundw
   case rel => exact ⟨k + 1, by omega, by go_num, below_drewN hbr _, drewN_step HM.out nq, HS⟩
   case measure => simp [intOf]; omega
  have HE : Hid (decide (a = b) = false) := decide_eq_false fun e => by
   have e1 := HX.out
   rw [e, HY.out] at e1
   injection e1 with e1
   exact hq e1.symm
  have hqb : (x != y) = true := by rw [bne_iff_ne]; exact hq
  have hqc : (x == y) = false := by rw [beq_eq_false_iff_ne]; exact hq
  clear ha hb hq
  go_wp2_with fail
  go_quiet (fail)
  go_wp2_with fail
  go_ret
  exact ⟨by rw [HE.out]; rfl, drewN_step HM.out nq⟩
 obtain rfl : k = a.length := by omega
 have HE : Hid (decide (a = b) = true) := decide_eq_true (lists_eq HL.out HA.out)
 clear ha hb
 go_wp2_with fail
 go_ret
 exact ⟨by rw [HE.out]; rfl, HM.out⟩
theorem ints_any (a b : List Int) (va vb : Value) (w : World) (ha : Sl intL w va a) (hb : Sl intL w vb b) : Calls Tryz.prog 26 #[va, vb] w fun e w' => e = .returned (.bool (decide (a = b))) /\ Below w.heap.size w w' :=
 (ints_any_q a b va vb w ha hb).mono fun _ _ ⟨h, m, hm⟩ => ⟨h, by rw [hm]; exact below_drewN (Below.refl _ _) m⟩
theorem tie_guard (op : BinOp) (a b : Operand) (xs ys : Array Value) (w : World) : (eqGuard op 35 a b (.agg xs) (.agg ys)).run Tryz.prog w = .ok () w := run_eqGuard_agg w op 35 a b xs ys (by kernel_rfl)
theorem tie_same (d : Nat) (x y : Tie) (w : World) : (Op.equalIn (d + 2) 35 (.agg #[.string x.bond, .int .i64 x.src, .int .i64 x.dst]) (.agg #[.string y.bond, .int .i64 y.src, .int .i64 y.dst])).run Tryz.prog w = .ok (decide (x = y)) w := by
 have hS : Tryz.prog.underlying 35 = some (.struct (Tryz.prog.fieldsOf 35)) := by kernel_rfl
 have hp : Tryz.prog.stoodInHeld 35 = false := by kernel_rfl
 have e1 := Tryz.underlying9
 have e2 := Tryz.underlying3
 rw [run_equalIn_agg w (d + 1) 35 _ _ hS hp]
 simp only [Program.fieldsOf, Tryz.underlying35]
 go_simp
 simp only [bytes_eq]
 cases x; cases y
 simp only [Tie.mk.injEq]
 rename_i a b c a' b' c'
 by_cases h1 : a = a' <;> by_cases h2 : b = b' <;> by_cases h3 : c = c' <;> simp [h1, h2, h3]
/-! ### Two nodes -/
/-! ### Ends: put where they belong -/
theorem ins_perm (acc : List Int) (n : Int) (p : Nat) : (acc.take p ++ n :: acc.drop p).Perm (n :: acc) := by
 have h : (acc.take p ++ n :: acc.drop p).Perm (n :: (acc.take p ++ acc.drop p)) := List.perm_middle
 rwa [List.take_append_drop] at h
theorem ins_rise {acc : List Int} {n : Int} {p : Nat} (hs : acc.Pairwise (· <= ·)) (_hp : p <= acc.length) (hA : ∀ i d, p <= i -> acc[i]? = some d -> n < d) (hB : p = 0 \/ ∃ q, acc[p - 1]? = some q /\ q <= n) : (acc.take p ++ n :: acc.drop p).Pairwise (· <= ·) := by
 have h0 : (acc.take p ++ acc.drop p).Pairwise (· <= ·) := by rw [List.take_append_drop]; exact hs
 rw [List.pairwise_append] at h0 ⊢
 obtain ⟨h1, h2, h3⟩ := h0
 have hd : ∀ d ∈ acc.drop p, n < d := fun d hd => by
  obtain ⟨i, hi⟩ := List.mem_iff_getElem?.1 hd
  rw [List.getElem?_drop] at hi
  exact hA (p + i) d (by omega) hi
 have ht : ∀ d ∈ acc.take p, d <= n := fun d hd => by
  rcases hB with h | ⟨q, hq, hqn⟩
  ·rw [h] at hd; simp at hd
  obtain ⟨i, hi⟩ := List.mem_iff_getElem?.1 hd
  rw [List.getElem?_take] at hi
  split at hi
  ·rename_i hip
   have hil := (List.getElem?_eq_some_iff.1 hi).1
   have hql := (List.getElem?_eq_some_iff.1 hq).1
   have e1 := (List.getElem?_eq_some_iff.1 hi).2
   have e2 := (List.getElem?_eq_some_iff.1 hq).2
   rcases Nat.lt_or_ge i (p - 1) with h | h
   ·have := List.pairwise_iff_getElem.1 hs i (p - 1) hil hql h
    omega
   have hie : i = p - 1 := by omega
   subst hie
   omega
  cases hi
 refine ⟨h1, List.pairwise_cons.2 ⟨fun d hd' => by have := hd d hd'; omega, h2⟩, fun a ha b hb => ?_⟩
 rcases List.mem_cons.1 hb with rfl | hb
 ·exact ht a ha
 exact h3 a ha b hb
theorem sortI_rise (l : List Int) : (sortI l).Pairwise (· <= ·) := by
 have h := List.pairwise_mergeSort (le := fun a b : Int => decide (a <= b)) (fun a b c h1 h2 => by simp at *; omega) (fun a b => by simp; omega) l
 exact h.imp (fun h => by simpa using h)
theorem sortI_of {acc l : List Int} (hs : acc.Pairwise (· <= ·)) (hp : acc.Perm l) : acc = sortI l :=
 List.Perm.eq_of_pairwise (fun a b _ _ h1 h2 => by omega) hs (sortI_rise l) (hp.trans (sortI_perm l).symm)
theorem read_takeI {w : World} {B bo oo co t : Nat} {e : TypeId} {acc : List Int} (h : Own w B e 1 (.slice (some ⟨bo, oo, none⟩) acc.length co) acc.length (acc.map (Value.int .i64))) :
 ∀ j u, ((acc.take t).map (Value.int .i64))[j]? = some u -> w.cell? ((⟨bo, oo, none⟩ : Addr).add j) = some u := by
 intro j u hj
 rw [addr_add]
 refine h.cell rfl ?_
 rw [List.map_take, List.getElem?_take] at hj
 split at hj
 ·exact hj
 cases hj
theorem read_dropI {w : World} {B bo oo co t : Nat} {e : TypeId} {acc : List Int} (h : Own w B e 1 (.slice (some ⟨bo, oo, none⟩) acc.length co) acc.length (acc.map (Value.int .i64))) :
 ∀ j u, ((acc.drop t).map (Value.int .i64))[j]? = some u -> w.cell? ((⟨bo, oo + t, none⟩ : Addr).add j) = some u := by
 intro j u hj
 rw [addr_add, Nat.add_assoc]
 refine h.cell rfl ?_
 rw [List.map_drop, List.getElem?_drop] at hj
 exact hj
theorem one_ints (l : List Int) : ∀ u ∈ l.map (Value.int .i64), u.oneCell' = true := fun u hu => by
 obtain ⟨x, _, rfl⟩ := List.mem_map.1 hu; rfl
end Go.Proofs.YtngbbefpphinjaaGreatDoor

/- Contract: what stat.far of the program answers. -/
namespace Go.Proofs.YtngbbefpphinjaaGreatDoor
open Go.RowKit
theorem int_info : (Tryz.prog.info? 3).map (fun i => (i.zero, i.size, i.bytes)) = some (some (.int .i64 0), 1, 8) := by kernel_rfl
open Go
def rSetStep (p : Prp) (st : List Prp × Bool) (q : Prp) : List Prp × Bool :=
 let s1 := if !st.2 && decide (0 <= cmpS q.name p.name) then (st.1 ++ [p], true) else st
 if q.name = p.name then s1 else (s1.1 ++ [q], s1.2)
def rSetL (r : List Prp) (p : Prp) : List Prp :=
 let st := r.foldl (rSetStep p) ([], false)
 if st.2 then st.1 else st.1 ++ [p]
theorem fold_low (p : Prp) : ∀ (l : List Prp) (acc : List Prp), (∀ q ∈ l, cmpS q.name p.name < 0) -> l.foldl (rSetStep p) (acc, false) = (acc ++ l, false)
 | [], acc, _ => by simp
 | q :: l, acc, h => by
  have h1 := h q (by simp)
  have h2 : ¬ q.name = p.name := fun e => by have := cmpS_zero.2 e; omega
  have e : rSetStep p (acc, false) q = (acc ++ [q], false) := by
   unfold rSetStep
   have : decide (0 <= cmpS q.name p.name) = false := decide_eq_false (by omega)
   simp [this, h2]
  rw [List.foldl_cons, e, fold_low p l _ (fun x hx => h x (by simp [hx]))]
  simp
theorem fold_put (p : Prp) : ∀ (l : List Prp) (acc : List Prp), (∀ q ∈ l, ¬ q.name = p.name) -> l.foldl (rSetStep p) (acc, true) = (acc ++ l, true)
 | [], acc, _ => by simp
 | q :: l, acc, h => by
  have e : rSetStep p (acc, true) q = (acc ++ [q], true) := by
   unfold rSetStep
   simp [h q (by simp)]
  rw [List.foldl_cons, e, fold_put p l _ (fun x hx => h x (by simp [hx]))]
  simp
theorem rSet_eq {r : List Prp} (h : recE r = 0) (p : Prp) : rSetL r p = putP r p := by
 have hch := (rec_ok h).2.2
 have hlow : ∀ q ∈ r.take (rpos r p.name), cmpS q.name p.name < 0 := fun q hq => by
  obtain ⟨i, hi⟩ := List.mem_iff_getElem?.1 hq
  rw [List.getElem?_take] at hi
  split at hi
  ·rename_i hlt; exact low_lt (c := prpC p.name) hlt hi
  cases hi
 have hsplit : r.foldl (rSetStep p) ([], false) = (r.drop (rpos r p.name)).foldl (rSetStep p) (r.take (rpos r p.name), false) := by
  conv => lhs; rw [<- List.take_append_drop (rpos r p.name) r]
  rw [List.foldl_append, fold_low p _ _ hlow, List.nil_append]
 unfold rSetL putP
 rw [hsplit]
 cases hq : rhas r p.name with
 | true =>
  rw [if_pos rfl]
  have hq' := hq
  unfold rhas eqAt at hq'
  cases hd : r[rpos r p.name]? with
  | none => rw [hd] at hq'; cases hq'
  | some q0 =>
   rw [hd] at hq'
   have h0 : prpC p.name q0 = 0 := by simpa using hq'
   have hn : q0.name = p.name := cmpS_zero.1 h0
   obtain ⟨hl, hg⟩ := List.getElem?_eq_some_iff.1 hd
   have hdrop : r.drop (rpos r p.name) = q0 :: r.drop (rpos r p.name + 1) := by rw [List.drop_eq_getElem_cons hl, hg]
   have hrest : ∀ x ∈ r.drop (rpos r p.name + 1), ¬ x.name = p.name := fun x hx => by
    have hpw := (chain_pw prpLt_tr).1 hch
    have h2 : (r.drop (rpos r p.name)).Pairwise fun a b => prpLt a b = true := hpw.sublist (List.drop_sublist _ _)
    rw [hdrop, List.pairwise_cons] at h2
    have h3 := prpLt_iff.1 (h2.1 x hx)
    rw [hn] at h3
    intro e
    rw [e] at h3
    have := (cmpS_zero (a := p.name) (b := p.name)).2 rfl
    omega
   have e : rSetStep p (r.take (rpos r p.name), false) q0 = (r.take (rpos r p.name) ++ [p], true) := by
    unfold rSetStep
    have : decide (0 <= cmpS q0.name p.name) = true := decide_eq_true (by rw [hn, (cmpS_zero (a := p.name) (b := p.name)).2 rfl]; omega)
    simp [hn, (cmpS_zero (a := p.name) (b := p.name)).2 rfl]
   rw [hdrop, List.foldl_cons, e, fold_put p _ _ hrest]
   simp only [if_true]
   rw [List.set_eq_take_append_cons_drop, if_pos hl, List.append_assoc]
   rfl
 | false =>
  rw [if_neg (show ¬ (false = true) by simp)]
  obtain ⟨_, b2⟩ := low_parts hch (prpC_mono p.name) hq (prp_hz p.name)
  show (let st := (r.drop (rpos r p.name)).foldl (rSetStep p) (r.take (rpos r p.name), false); if st.2 then st.1 else st.1 ++ [p]) = r.take (rpos r p.name) ++ p :: r.drop (rpos r p.name)
  have b2 : ∀ d ∈ r.drop (rpos r p.name), 0 < prpC p.name d := b2
  cases hd : r.drop (rpos r p.name) with
  | nil => simp
  | cons q0 rest =>
   rw [hd] at b2
   have h0 := b2 q0 (by simp)
   unfold prpC at h0
   have hn : ∀ x ∈ q0 :: rest, ¬ x.name = p.name := fun x hx e => by
    have h1 := b2 x hx
    unfold prpC at h1
    rw [cmpS_zero.2 e] at h1
    omega
   have e : rSetStep p (r.take (rpos r p.name), false) q0 = (r.take (rpos r p.name) ++ [p] ++ [q0], true) := by
    unfold rSetStep
    have h1 : decide (0 <= cmpS q0.name p.name) = true := decide_eq_true (by omega)
    simp [h1, hn q0 (by simp)]
   rw [List.foldl_cons, e, fold_put p rest _ (fun x hx => hn x (by simp [hx]))]
   simp
theorem put_len (r : List Prp) (p : Prp) : (putP r p).length = if rhas r p.name = true then r.length else r.length + 1 := by
 unfold putP
 split
 ·simp
 have : rpos r p.name <= r.length := lowI_le _ _
 simp; omega
theorem rset_parts {r : List Prp} (h : recE r = 0) (p : Prp) : (prpE p ≠ 0 -> setE r p = prpE p /\ setR r p = []) /\ (prpE p = 0 -> 8 < (rSetL r p).length -> setE r p = 4 /\ setR r p = []) /\ (prpE p = 0 -> ¬ 8 < (rSetL r p).length -> setE r p = 0 /\ setR r p = rSetL r p) := by
 have hl := (rec_ok h).1
 have e0 : setE r p = if prpE p = 0 then (if rhas r p.name then 0 else if 8 <= r.length then 4 else 0) else prpE p := by unfold setE; rw [if_pos h]
 rw [rSet_eq h, put_len]
 refine ⟨fun hp => ?_, fun hp hb => ?_, fun hp hb => ?_⟩
 ·rw [if_neg hp] at e0
  exact ⟨e0, by unfold setR; rw [if_neg (by rw [e0]; exact hp)]⟩
 ·have e1 : setE r p = 4 := by
   rw [e0, if_pos hp]
   split at hb
   ·omega
   rename_i hq; rw [if_neg hq, if_pos (by omega)]
  exact ⟨e1, by unfold setR; rw [if_neg (by rw [e1]; omega)]⟩
 have e1 : setE r p = 0 := by
  rw [e0, if_pos hp]
  split at hb
  ·rename_i hq; rw [if_pos hq]
  rename_i hq; rw [if_neg hq, if_neg (by omega)]
 exact ⟨e1, by unfold setR; rw [if_pos e1]⟩
def rUnsL (r : List Prp) (nm : ByteArray) : List Prp := r.filter fun q => decide (¬ q.name = nm)
theorem rUns_eq {r : List Prp} (h : recE r = 0) (nm : ByteArray) : (rhas r nm = true -> rUnsL r nm = unsetR r nm /\ unsetE r nm = 0 /\ (rUnsL r nm).length < r.length) /\ (rhas r nm = false -> unsetE r nm = 5 /\ unsetR r nm = [] /\ ¬ (rUnsL r nm).length < r.length) := by
 have hch := (rec_ok h).2.2
 refine ⟨fun hq => ?_, fun hq => ?_⟩
 ·have e1 : unsetE r nm = 0 := by unfold unsetE; rw [if_pos h, if_pos hq]
  have hq' := hq
  unfold rhas eqAt at hq'
  cases hd : r[rpos r nm]? with
  | none => rw [hd] at hq'; cases hq'
  | some q0 =>
   rw [hd] at hq'
   have h0 : prpC nm q0 = 0 := by simpa using hq'
   have hn : q0.name = nm := cmpS_zero.1 h0
   obtain ⟨hl, hg⟩ := List.getElem?_eq_some_iff.1 hd
   have hdrop : r.drop (rpos r nm) = q0 :: r.drop (rpos r nm + 1) := by rw [List.drop_eq_getElem_cons hl, hg]
   have hrest : ∀ x ∈ r.drop (rpos r nm + 1), ¬ x.name = nm := fun x hx => by
    have hpw := (chain_pw prpLt_tr).1 hch
    have h2 : (r.drop (rpos r nm)).Pairwise fun a b => prpLt a b = true := hpw.sublist (List.drop_sublist _ _)
    rw [hdrop, List.pairwise_cons] at h2
    have h3 := prpLt_iff.1 (h2.1 x hx)
    rw [hn] at h3
    intro e
    rw [e] at h3
    have := (cmpS_zero (a := nm) (b := nm)).2 rfl
    omega
   have hlow : ∀ x ∈ r.take (rpos r nm), ¬ x.name = nm := fun x hx e => by
    obtain ⟨i, hi⟩ := List.mem_iff_getElem?.1 hx
    rw [List.getElem?_take] at hi
    split at hi
    ·rename_i hlt
     have := low_lt (c := prpC nm) hlt hi
     unfold prpC at this
     rw [cmpS_zero.2 e] at this
     omega
    cases hi
   have e2 : rUnsL r nm = r.take (rpos r nm) ++ r.drop (rpos r nm + 1) := by
    unfold rUnsL
    conv => lhs; rw [<- List.take_append_drop (rpos r nm) r]
    rw [List.filter_append, hdrop, List.filter_cons, if_neg (by simp [hn])]
    rw [List.filter_eq_self.2 (fun x hx => decide_eq_true (hlow x hx)), List.filter_eq_self.2 (fun x hx => decide_eq_true (hrest x hx))]
   refine ⟨?_, e1, ?_⟩
   ·rw [e2]; unfold unsetR; rw [if_pos e1]
   rw [e2, List.length_append, List.length_take, List.length_drop]; omega
 have e1 : unsetE r nm = 5 := by unfold unsetE; rw [if_pos h, if_neg (by rw [hq]; simp)]
 refine ⟨e1, by unfold unsetR; rw [if_neg (by rw [e1]; omega)], ?_⟩
 have e2 : rUnsL r nm = r := by
  unfold rUnsL
  refine List.filter_eq_self.2 fun x hx => decide_eq_true fun e => ?_
  have := (rhas_mem h nm).2 ⟨x, hx, e⟩
  rw [hq] at this; cases this
 rw [e2]; omega
theorem str_any0 {s : ByteArray} (h : ∀ j x, j < s.size -> s.data.toList[j]? = some x -> strC x = false) : s.data.toList.any strC = false := by
 rw [List.any_eq_false]
 intro x hx
 obtain ⟨j, hj⟩ := List.mem_iff_getElem?.1 hx
 have hl := (List.getElem?_eq_some_iff.1 hj).1
 have := h j x (by simpa using hl) hj
 simp [this]
theorem str_any1 {s : ByteArray} {k : Nat} {x : UInt8} (h : s.data.toList[k]? = some x) (hx : strC x = true) : s.data.toList.any strC = true :=
 List.any_eq_true.2 ⟨x, List.mem_of_getElem? h, hx⟩
set_option maxRecDepth 100000 in
set_option maxHeartbeats 4000000 in
theorem rvalue_any (v : Val) (w : World) (hs : Sm v.s) :
 Calls Tryz.prog 74 #[.agg #[.int .i64 v.ty, .int .i64 v.n, .string v.s]] w fun e w' => e = .returned (.int .i64 (valE v)) /\ Below w.heap.size w w' := by
 obtain ⟨ty, n, s⟩ := v
 have hs : s.size <= 1048576 := hs
 have hb0 : Below w.heap.size w (w.alloc (.cells #[.int .i64 ty, .int .i64 n, .string s] 31)) := (Below.refl _ _).alloc (Nat.le_refl _) _
 have HF : Hid (valE ⟨ty, n, s⟩ = if ty = 1 \/ ty = 2 \/ ty = 3 then (if n < valLo ty \/ valHi ty < n then 1 else if ty = 3 /\ 20 < s.size then 4 else if s.data.toList.any strC = true \/ (ty ≠ 3 /\ s.toList.isEmpty = false) then 2 else 0) else 8) := rfl
 by_cases h0 : ty < 1
 ·have HE : Hid (valE ⟨ty, n, s⟩ = 8) := by unfold Hid; rw [HF.out, if_neg (by omega)]
  clear HF
  go_enter Tryz.func74, Tryz.ntmps74
  go_wp2_with fail
  go_ret
  exact ⟨by rw [HE.out]; rfl, hb0⟩
 by_cases h4 : 3 < ty
 ·have h0' : 1 <= ty := by omega
  have HE : Hid (valE ⟨ty, n, s⟩ = 8) := by unfold Hid; rw [HF.out, if_neg (by omega)]
  clear h0
  clear HF
  go_enter Tryz.func74, Tryz.ntmps74
  go_wp2_with fail
  go_ret
  exact ⟨by rw [HE.out]; rfl, hb0⟩
 have h3 : ty = 1 \/ ty = 2 \/ ty = 3 := by omega
 rcases h3 with rfl | rfl | rfl
 ·by_cases h1 : n < -1000000
  ·have HE : Hid (valE ⟨1, n, s⟩ = 1) := by unfold Hid; rw [HF.out, if_pos (.inl rfl), if_pos (.inl h1)]
   clear h0 h4
   clear HF
   go_enter Tryz.func74, Tryz.ntmps74
   go_wp2_with fail
   go_ret
   exact ⟨by rw [HE.out]; rfl, hb0⟩
  have h1' : -1000000 <= n := by omega
  by_cases h2 : 1000000 < n
  ·have HE : Hid (valE ⟨1, n, s⟩ = 1) := by unfold Hid; rw [HF.out, if_pos (.inl rfl), if_pos (.inr h2)]
   clear h0 h4 h1
   clear HF
   go_enter Tryz.func74, Tryz.ntmps74
   go_wp2_with fail
   go_ret
   exact ⟨by rw [HE.out]; rfl, hb0⟩
  have h2' : n <= 1000000 := by omega
  have HG : Hid (valE ⟨1, n, s⟩ = if s.data.toList.any strC = true \/ s.toList.isEmpty = false then 2 else 0) := by
   unfold Hid
   rw [HF.out, if_pos (.inl rfl), if_neg (by rintro (h | h); exact h1 h; exact h2 h), if_neg (by omega)]
   simp
  cases he : s.toList.isEmpty with
  | false =>
   have hq : ¬ s.toList = [] := by intro e; rw [e] at he; cases he
   have HE : Hid (valE ⟨1, n, s⟩ = 2) := by unfold Hid; rw [HG.out, if_pos (.inr he)]
   clear h0 h4 h1 h2 HG
   clear HF
   go_enter Tryz.func74, Tryz.ntmps74
   go_wp2_with fail
   go_ret
   exact ⟨by rw [HE.out]; rfl, hb0⟩
  | true =>
   have hq : s.toList = [] := by simpa using he
   have HS1 : Hid (∀ (k : Nat) x, s.data.toList[k]? = some x -> strC x = true -> valE ⟨1, n, s⟩ = 2) := fun k x hk hx => by rw [HG.out, if_pos (.inl (str_any1 hk hx))]
   have HS0 : Hid ((∀ j x, j < s.size -> s.data.toList[j]? = some x -> strC x = false) -> valE ⟨1, n, s⟩ = 0) := fun h => by rw [HG.out, str_any0 h, he]; rfl
   clear h0 h4 h1 h2 HG HF
   go_enter Tryz.func74, Tryz.ntmps74
   go_wp2_with fail
   go_loop [3] (fun i => ∃ k : Nat, k <= s.size /\ i = .int .i64 k /\ Hid (∀ j x, j < k -> s.data.toList[j]? = some x -> strC x = false)) (fun i => s.size - (intOf i).toNat)
   case atStart => exact ⟨0, Nat.zero_le _, rfl, fun j x hj => absurd hj (Nat.not_lt_zero _)⟩
   obtain ⟨k, hk, rfl, HA⟩ := hrel
   by_cases hlt : k < s.size
   ·have hlt' : (k : Int) < (s.size : Int) := by omega
    have HB := Lib.hid (bytes_at s k hlt)
    by_cases hlo : (s[k].toNat : Int) < 32
    ·have HE : Hid (valE ⟨1, n, s⟩ = 2) := HS1.out _ _ HB.out (by unfold strC; rw [decide_eq_true hlo]; rfl)
     go_wp2_with fail
     go_ret
     exact ⟨by rw [HE.out]; rfl, hb0⟩
    have hlo' : (32 : Int) <= (s[k].toNat : Int) := by omega
    by_cases hhi : (126 : Int) < (s[k].toNat : Int)
    ·have HE : Hid (valE ⟨1, n, s⟩ = 2) := HS1.out _ _ HB.out (by unfold strC; rw [decide_eq_true hhi]; simp)
     clear hlo
     go_wp2_with fail
     go_ret
     exact ⟨by rw [HE.out]; rfl, hb0⟩
    have hhi' : (s[k].toNat : Int) <= 126 := by omega
    have HS : Hid (∀ j x, j < k + 1 -> s.data.toList[j]? = some x -> strC x = false) := miss_step HA.out HB.out (by unfold strC; rw [decide_eq_false hlo, decide_eq_false hhi]; rfl)
    clear hlo hhi
    go_wp2_with fail
    go_round
    case rel => exact ⟨k + 1, by omega, by go_num, HS⟩
    case measure => simp [intOf]; omega
   obtain rfl : k = s.size := by omega
   have HE : Hid (valE ⟨1, n, s⟩ = 0) := HS0.out HA.out
   go_wp2_with fail
   go_ret
   exact ⟨by rw [HE.out]; rfl, hb0⟩
 ·by_cases h1 : n < 0
  ·have HE : Hid (valE ⟨2, n, s⟩ = 1) := by unfold Hid; rw [HF.out, if_pos (.inr (.inl rfl)), if_pos (.inl h1)]
   clear h0 h4
   clear HF
   go_enter Tryz.func74, Tryz.ntmps74
   go_wp2_with fail
   go_ret
   exact ⟨by rw [HE.out]; rfl, hb0⟩
  have h1' : 0 <= n := by omega
  by_cases h2 : 1 < n
  ·have HE : Hid (valE ⟨2, n, s⟩ = 1) := by unfold Hid; rw [HF.out, if_pos (.inr (.inl rfl)), if_pos (.inr h2)]
   clear h0 h4 h1
   clear HF
   go_enter Tryz.func74, Tryz.ntmps74
   go_wp2_with fail
   go_ret
   exact ⟨by rw [HE.out]; rfl, hb0⟩
  have h2' : n <= 1 := by omega
  have HG : Hid (valE ⟨2, n, s⟩ = if s.data.toList.any strC = true \/ s.toList.isEmpty = false then 2 else 0) := by
   unfold Hid
   rw [HF.out, if_pos (.inr (.inl rfl)), if_neg (by rintro (h | h); exact h1 h; exact h2 h), if_neg (by omega)]
   simp
  cases he : s.toList.isEmpty with
  | false =>
   have hq : ¬ s.toList = [] := by intro e; rw [e] at he; cases he
   have HE : Hid (valE ⟨2, n, s⟩ = 2) := by unfold Hid; rw [HG.out, if_pos (.inr he)]
   clear h0 h4 h1 h2 HG
   clear HF
   go_enter Tryz.func74, Tryz.ntmps74
   go_wp2_with fail
   go_ret
   exact ⟨by rw [HE.out]; rfl, hb0⟩
  | true =>
   have hq : s.toList = [] := by simpa using he
   have HS1 : Hid (∀ (k : Nat) x, s.data.toList[k]? = some x -> strC x = true -> valE ⟨2, n, s⟩ = 2) := fun k x hk hx => by rw [HG.out, if_pos (.inl (str_any1 hk hx))]
   have HS0 : Hid ((∀ j x, j < s.size -> s.data.toList[j]? = some x -> strC x = false) -> valE ⟨2, n, s⟩ = 0) := fun h => by rw [HG.out, str_any0 h, he]; rfl
   clear h0 h4 h1 h2 HG HF
   go_enter Tryz.func74, Tryz.ntmps74
   go_wp2_with fail
   go_loop [3] (fun i => ∃ k : Nat, k <= s.size /\ i = .int .i64 k /\ Hid (∀ j x, j < k -> s.data.toList[j]? = some x -> strC x = false)) (fun i => s.size - (intOf i).toNat)
   case atStart => exact ⟨0, Nat.zero_le _, rfl, fun j x hj => absurd hj (Nat.not_lt_zero _)⟩
   obtain ⟨k, hk, rfl, HA⟩ := hrel
   by_cases hlt : k < s.size
   ·have hlt' : (k : Int) < (s.size : Int) := by omega
    have HB := Lib.hid (bytes_at s k hlt)
    by_cases hlo : (s[k].toNat : Int) < 32
    ·have HE : Hid (valE ⟨2, n, s⟩ = 2) := HS1.out _ _ HB.out (by unfold strC; rw [decide_eq_true hlo]; rfl)
     go_wp2_with fail
     go_ret
     exact ⟨by rw [HE.out]; rfl, hb0⟩
    have hlo' : (32 : Int) <= (s[k].toNat : Int) := by omega
    by_cases hhi : (126 : Int) < (s[k].toNat : Int)
    ·have HE : Hid (valE ⟨2, n, s⟩ = 2) := HS1.out _ _ HB.out (by unfold strC; rw [decide_eq_true hhi]; simp)
     clear hlo
     go_wp2_with fail
     go_ret
     exact ⟨by rw [HE.out]; rfl, hb0⟩
    have hhi' : (s[k].toNat : Int) <= 126 := by omega
    have HS : Hid (∀ j x, j < k + 1 -> s.data.toList[j]? = some x -> strC x = false) := miss_step HA.out HB.out (by unfold strC; rw [decide_eq_false hlo, decide_eq_false hhi]; rfl)
    clear hlo hhi
    go_wp2_with fail
    go_round
    case rel => exact ⟨k + 1, by omega, by go_num, HS⟩
    case measure => simp [intOf]; omega
   obtain rfl : k = s.size := by omega
   have HE : Hid (valE ⟨2, n, s⟩ = 0) := HS0.out HA.out
   go_wp2_with fail
   go_ret
   exact ⟨by rw [HE.out]; rfl, hb0⟩
 by_cases h1 : n = 0
 case neg =>
  have hnb : (n != 0) = true := by simpa using h1
  have HE : Hid (valE ⟨3, n, s⟩ = 1) := by
   unfold Hid
   rw [HF.out, if_pos (.inr (.inr rfl)), if_pos]
   have e1 : valLo 3 = 0 := rfl
   have e2 : valHi 3 = 0 := rfl
   rw [e1, e2]; omega
  clear h0 h4 h1
  clear HF
  go_enter Tryz.func74, Tryz.ntmps74
  go_wp2_with fail
  go_ret
  exact ⟨by rw [HE.out]; rfl, hb0⟩
 subst h1
 by_cases h2 : 20 < s.size
 ·have h2' : (20 : Int) < (s.size : Int) := by omega
  have HE : Hid (valE ⟨3, 0, s⟩ = 4) := by unfold Hid; rw [HF.out, if_pos (.inr (.inr rfl)), if_neg (by simp [valLo, valHi]), if_pos ⟨rfl, h2⟩]
  clear h0 h4
  clear HF
  go_enter Tryz.func74, Tryz.ntmps74
  go_wp2_with fail
  go_ret
  exact ⟨by rw [HE.out]; rfl, hb0⟩
 have h2' : (s.size : Int) <= 20 := by omega
 have HG : Hid (valE ⟨3, 0, s⟩ = if s.data.toList.any strC = true then 2 else 0) := by
  unfold Hid
  rw [HF.out, if_pos (.inr (.inr rfl)), if_neg (by simp [valLo, valHi]), if_neg (by omega)]
  simp
 have HS1 : Hid (∀ (k : Nat) x, s.data.toList[k]? = some x -> strC x = true -> valE ⟨3, 0, s⟩ = 2) := fun k x hk hx => by rw [HG.out, if_pos (str_any1 hk hx)]
 have HS0 : Hid ((∀ j x, j < s.size -> s.data.toList[j]? = some x -> strC x = false) -> valE ⟨3, 0, s⟩ = 0) := fun h => by rw [HG.out, str_any0 h]; rfl
 clear h0 h4 h2 HG HF
 go_enter Tryz.func74, Tryz.ntmps74
 go_wp2_with fail
 go_loop [3] (fun i => ∃ k : Nat, k <= s.size /\ i = .int .i64 k /\ Hid (∀ j x, j < k -> s.data.toList[j]? = some x -> strC x = false)) (fun i => s.size - (intOf i).toNat)
 case atStart => exact ⟨0, Nat.zero_le _, rfl, fun j x hj => absurd hj (Nat.not_lt_zero _)⟩
 obtain ⟨k, hk, rfl, HA⟩ := hrel
 by_cases hlt : k < s.size
 ·have hlt' : (k : Int) < (s.size : Int) := by omega
  have HB := Lib.hid (bytes_at s k hlt)
  by_cases hlo : (s[k].toNat : Int) < 32
  ·have HE : Hid (valE ⟨3, 0, s⟩ = 2) := HS1.out _ _ HB.out (by unfold strC; rw [decide_eq_true hlo]; rfl)
   go_wp2_with fail
   go_ret
   exact ⟨by rw [HE.out]; rfl, hb0⟩
  have hlo' : (32 : Int) <= (s[k].toNat : Int) := by omega
  by_cases hhi : (126 : Int) < (s[k].toNat : Int)
  ·have HE : Hid (valE ⟨3, 0, s⟩ = 2) := HS1.out _ _ HB.out (by unfold strC; rw [decide_eq_true hhi]; simp)
   clear hlo
   go_wp2_with fail
   go_ret
   exact ⟨by rw [HE.out]; rfl, hb0⟩
  have hhi' : (s[k].toNat : Int) <= 126 := by omega
  have HS : Hid (∀ j x, j < k + 1 -> s.data.toList[j]? = some x -> strC x = false) := miss_step HA.out HB.out (by unfold strC; rw [decide_eq_false hlo, decide_eq_false hhi]; rfl)
  clear hlo hhi
  go_wp2_with fail
  go_round
  case rel => exact ⟨k + 1, by omega, by go_num, HS⟩
  case measure => simp [intOf]; omega
 obtain rfl : k = s.size := by omega
 have HE : Hid (valE ⟨3, 0, s⟩ = 0) := HS0.out HA.out
 go_wp2_with fail
 go_ret
 exact ⟨by rw [HE.out]; rfl, hb0⟩
theorem get_take_up {l : List Knd} {i m : Nat} {x : Knd} (h : (l.take i)[m]? = some x) : (l.take (i + 1))[m]? = some x := by
 rw [List.getElem?_take] at h ⊢
 split at h
 ·rw [if_pos (by omega)]; exact h
 cases h
theorem get_take_dn {l : List Knd} {i m : Nat} {x : Knd} (hm : m < i) (h : (l.take (i + 1))[m]? = some x) : (l.take i)[m]? = some x := by
 rw [List.getElem?_take] at h ⊢
 rw [if_pos (by omega)] at h
 rw [if_pos hm]; exact h
theorem wf_snoc {l : List Knd} {i : Nat} {k : Knd} (hw : Wf (l.take i)) (hk : l[i]? = some k) (hnew : kFind (l.take i) k.name < 0) (ho : ofsE (l.take i) [] k.ofs = 0) : Wf (l.take (i + 1)) := by
 intro m x hx
 by_cases hm : m < i
 ·obtain ⟨a, b⟩ := hw m x (get_take_dn hm hx)
  refine ⟨fun j y hj hy => a j y hj (get_take_dn (by omega) hy), fun s hs => ?_⟩
  obtain ⟨j, y, h1, h2, h3⟩ := b s hs
  exact ⟨j, y, h1, get_take_up h2, h3⟩
 have hmi : m = i := by
  have := (List.getElem?_eq_some_iff.1 hx).1
  simp at this; omega
 subst hmi
 have hxk : x = k := by
  rw [List.getElem?_take, if_pos (by omega), hk] at hx
  injection hx with hx; exact hx.symm
 subst hxk
 refine ⟨fun j y hj hy => kFind_neg hnew y (List.mem_of_getElem? (get_take_dn hj hy)), fun s hs => ?_⟩
 obtain ⟨j, y, h1, h2, h3, _⟩ := kFind_pos (ofsE_zero ho s hs)
 have hjl := (List.getElem?_eq_some_iff.1 h2).1
 simp at hjl
 exact ⟨j, y, by omega, get_take_up h2, h3⟩
theorem nameE_two {s : ByteArray} (h : nameE s ≠ 0) : nameE s = 2 := by
 unfold nameE at h ⊢
 split
 ·rfl
 rename_i h1
 rw [if_neg h1] at h
 split
 ·rfl
 rename_i h2
 rw [if_neg h2] at h
 split
 ·rfl
 rename_i h3; rw [if_neg h3] at h; exact absurd rfl h
set_option maxRecDepth 100000 in
set_option maxHeartbeats 4000000 in
theorem rkind1_any (l : List Knd) (i : Nat) (k : Knd) (v : Value) (w : World) (hv : Sl kndL w v l) (hk : l[i]? = some k) (hw : Wf (l.take i)) (hl : l.length <= 12) (hfl : ∀ x ∈ l.take i, x.fields.length <= 8) :
 Calls Tryz.prog 173 #[v, .int .i64 i] w fun e w' => e = .returned (.int .i64 (oneE (l.take i) k)) /\ Below w.heap.size w w' := by
 obtain ⟨A, c, rfl, hlc, hcA⟩ := hv.form
 have HV := Lib.hid hv
 have hi : i < l.length := (List.getElem?_eq_some_iff.1 hk).1
 have hi' : (i : Int) < (l.length : Int) := by omega
 have hic : (i : Int) <= (c : Int) := by omega
 have htk := hv.take (k := i) (by omega)
 obtain ⟨b, o, rfl, u1, u2, hnm, h1, h2, c0, c1, c2⟩ := knd_at hv hk
 obtain ⟨A1, c1', rfl, _, hc1⟩ := h1.form
 obtain ⟨A2, c2', rfl, _, hc2⟩ := h2.form
 obtain ⟨z0, z1, z2⟩ := cell_box3 w (.string k.name) (.slice A1 k.ofs.length c1') (.slice A2 k.fields.length c2') 80
 have hb0 : Below w.heap.size w (w.alloc (.cells #[.string k.name, .slice A1 k.ofs.length c1', .slice A2 k.fields.length c2'] 80)) := (Below.refl _ _).alloc (Nat.le_refl _) _
 have HK := Lib.hid hk
 have HW := Lib.hid hw
 have HFL := Lib.hid hfl
 clear hfl hw hk hv
 go_enter Tryz.func173, Tryz.ntmps173
 go_wp2_with fail
 refine (rname_any k.name _ hnm).mono ?_
 rintro e w1 ⟨rfl, rfl⟩
 generalize w.alloc (.cells #[.string k.name, .slice A1 k.ofs.length c1', .slice A2 k.fields.length c2'] 80) = W at *
 by_cases hn : nameE k.name = 0
 case neg =>
  have HE : Hid (oneE (l.take i) k = 2) := by unfold Hid oneE; rw [if_neg hn, nameE_two hn]
  rw [nameE_two hn]
  clear hn
  go_wp2_with fail
  go_ret
  exact ⟨by rw [HE.out]; rfl, hb0⟩
 have HE1 : Hid (oneE (l.take i) k = if 0 <= kFind (l.take i) k.name then 7 else if 4 < k.ofs.length then 4 else if 8 < k.fields.length then 4 else if ofsE (l.take i) [] k.ofs = 0 then if fldsE none k.fields = 0 then sumE (fieldsOf (l.take i ++ [k]) k.name) else fldsE none k.fields else ofsE (l.take i) [] k.ofs) := by
  unfold Hid oneE; rw [if_pos hn]
 rw [hn]
 clear hn
 go_wp2_with fail
 refine wp_mid_k 5 _ rfl rfl (by kernel_rfl) (by kernel_rfl) ?_
 simp only [List.take_succ_cons, List.take_zero, List.drop_succ_cons, List.drop_zero]
 repeat (go_big_quiet_step (fail))
 refine wpQuiet_nil ?_
 intro _ hw'
 obtain ⟨nq, hw''⟩ := hw'
 subst hw''
 intro K hK
 have hkf := rkind_any (l.take i) k.name _ (W.drewN nq) (htk.below (below_drewN hb0 nq))
 have y0 : (W.drewN nq).cell? ⟨w.heap.size, 0, none⟩ = some (.string k.name) := z0
 have y1 : (W.drewN nq).cell? ⟨w.heap.size, 1, none⟩ = some (.slice A1 k.ofs.length c1') := z1
 have y2 : (W.drewN nq).cell? ⟨w.heap.size, 2, none⟩ = some (.slice A2 k.fields.length c2') := z2
 have hb1 := below_drewN hb0 nq
 go_wp2_with fail
 refine hkf.mono ?_
 clear hkf
 rintro e w1 ⟨rfl, rfl⟩
 clear z0 z1 z2 hb0
 generalize W.drewN nq = W at *
 generalize hzz : kFind (l.take i) k.name = z at *
 have HZ := Lib.hid hzz
 clear hzz
 refine hK _ _ ?_
 repeat (go_big_quiet_step (fail))
 refine wpQuiet_nil ?_
 intro _ hw'
 obtain ⟨nq2, hw''⟩ := hw'
 subst hw''
 clear hK
 have z0 : (W.drewN nq2).cell? ⟨w.heap.size, 0, none⟩ = some (.string k.name) := y0
 have z1 : (W.drewN nq2).cell? ⟨w.heap.size, 1, none⟩ = some (.slice A1 k.ofs.length c1') := y1
 have z2 : (W.drewN nq2).cell? ⟨w.heap.size, 2, none⟩ = some (.slice A2 k.fields.length c2') := y2
 have hb2 := below_drewN hb1 nq2
 clear y0 y1 y2 hb1
 generalize W.drewN nq2 = W at *
 by_cases hz : 0 <= z
 case pos =>
  have HE : Hid (oneE (l.take i) k = 7) := by unfold Hid; rw [HE1.out, if_pos hz]
  clear HE1
  go_wp2_with fail
  go_ret
  exact ⟨by rw [HE.out]; rfl, hb2⟩
 have hz' : z < 0 := by omega
 have HNEW : Hid (kFind (l.take i) k.name < 0) := by unfold Hid; rw [HZ.out]; exact hz'
 have HE2 : Hid (oneE (l.take i) k = if 4 < k.ofs.length then 4 else if 8 < k.fields.length then 4 else if ofsE (l.take i) [] k.ofs = 0 then if fldsE none k.fields = 0 then sumE (fieldsOf (l.take i ++ [k]) k.name) else fldsE none k.fields else ofsE (l.take i) [] k.ofs) := by
  unfold Hid; rw [HE1.out, if_neg hz]
 clear HE1 hz
 by_cases h4 : 4 < k.ofs.length
 case pos =>
  have HE : Hid (oneE (l.take i) k = 4) := by unfold Hid; rw [HE2.out, if_pos h4]
  have h4' : (4 : Int) < (k.ofs.length : Int) := by omega
  clear HE2
  go_wp2_with fail
  go_ret
  exact ⟨by rw [HE.out]; rfl, hb2⟩
 have h4' : (k.ofs.length : Int) <= 4 := by omega
 by_cases h8 : 8 < k.fields.length
 case pos =>
  have HE : Hid (oneE (l.take i) k = 4) := by unfold Hid; rw [HE2.out, if_neg h4, if_pos h8]
  have h8' : (8 : Int) < (k.fields.length : Int) := by omega
  clear HE2
  go_wp2_with fail
  go_ret
  exact ⟨by rw [HE.out]; rfl, hb2⟩
 have h8' : (k.fields.length : Int) <= 8 := by omega
 have HE3 : Hid (oneE (l.take i) k = if ofsE (l.take i) [] k.ofs = 0 then if fldsE none k.fields = 0 then sumE (fieldsOf (l.take i ++ [k]) k.name) else fldsE none k.fields else ofsE (l.take i) [] k.ofs) := by
  unfold Hid; rw [HE2.out, if_neg h4, if_neg h8]
 clear HE2
 go_wp2_with fail
 go_loopw [6] (fun t wr => ∃ j : Nat, j <= k.ofs.length /\ t = .int .i64 j /\ Below W.heap.size W wr /\ Hid (ofsE (l.take i) [] k.ofs = ofsE (l.take i) (k.ofs.take j) (k.ofs.drop j))) (fun t _ => k.ofs.length - (intOf t).toNat)
 case atStart => exact ⟨0, Nat.zero_le _, rfl, Below.refl _ _, rfl⟩
 obtain ⟨j, hj, rfl, hbr, HR⟩ := hrel
 have hBr := hb2.trans (hbr.mono hb2.size)
 have r0 := cell_below hbr z0
 have r1 := cell_below hbr z1
 have r2 := cell_below hbr z2
 clear z0 z1 z2
 by_cases hlt : j < k.ofs.length
 ·obtain ⟨s, hs⟩ : ∃ s, k.ofs[j]? = some s := ⟨_, List.getElem?_eq_getElem hlt⟩
  obtain ⟨bs, os, rfl, hss, x0⟩ := str_at (h1.below hBr) hs
  have HS := Lib.hid (ofsE_step hs HR.out)
  have hlt' : (j : Int) < (k.ofs.length : Int) := by omega
  have htk1 := h1.take hj
  have hj' : (j : Int) <= (c1' : Int) := by omega
  clear hs HR
  go_wp2_with fail
  refine wp_mid_k 8 _ rfl rfl (by kernel_rfl) (by kernel_rfl) ?_
  simp only [List.take_succ_cons, List.take_zero, List.drop_succ_cons, List.drop_zero]
  repeat (go_big_quiet_step (fail))
  refine wpQuiet_nil ?_
  intro _ hw'
  obtain ⟨nq, hw''⟩ := hw'
  subst hw''
  intro K hK
  have hkf := rkind_any (l.take i) s _ (wr.drewN nq) (htk.below (below_drewN hBr nq))
  have y0 : (wr.drewN nq).cell? ⟨w.heap.size, 0, none⟩ = some (.string k.name) := r0
  have y1 : (wr.drewN nq).cell? ⟨w.heap.size, 1, none⟩ = some (.slice (some ⟨bs, os, none⟩) k.ofs.length c1') := r1
  have y2 : (wr.drewN nq).cell? ⟨w.heap.size, 2, none⟩ = some (.slice A2 k.fields.length c2') := r2
  have x1 : (wr.drewN nq).cell? ⟨bs, os + j, none⟩ = some (.string s) := x0
  go_wp2_with fail
  refine hkf.mono ?_
  clear hkf
  rintro e w3 ⟨rfl, rfl⟩
  generalize kFind (l.take i) s = z3 at *
  refine hK _ _ ?_
  repeat (go_big_quiet_step (fail))
  refine wpQuiet_nil ?_
  intro _ hw'
  obtain ⟨nq2, hw''⟩ := hw'
  subst hw''
  clear hK
  by_cases hz2 : z3 < 0
  ·have HE : Hid (oneE (l.take i) k = 5) := by unfold Hid; rw [HE3.out, HS.out, if_pos hz2, if_neg (by omega)]
   clear HE3 HS
   go_wp2_with fail
   go_ret
   exact ⟨by rw [HE.out]; rfl, below_drewN (below_drewN hBr _) _⟩
  have hz3 : 0 <= z3 := by omega
  have HS2 : Hid (ofsE (l.take i) [] k.ofs = if (k.ofs.take j).any (fun y => decide (s = y)) then 7 else ofsE (l.take i) (k.ofs.take (j + 1)) (k.ofs.drop (j + 1))) := by unfold Hid; rw [HS.out, if_neg hz2]
  clear HS hz2
  generalize hWx : (wr.drewN nq).drewN nq2 = Wx at *
  have hbx : Below W.heap.size W Wx := by rw [<- hWx]; exact below_drewN (below_drewN hbr _) _
  have hBx : Below w.heap.size w Wx := by rw [<- hWx]; exact below_drewN (below_drewN hBr _) _
  have s0 : Wx.cell? ⟨w.heap.size, 0, none⟩ = some (.string k.name) := by rw [<- hWx]; exact r0
  have s1 : Wx.cell? ⟨w.heap.size, 1, none⟩ = some (.slice (some ⟨bs, os, none⟩) k.ofs.length c1') := by rw [<- hWx]; exact r1
  have s2 : Wx.cell? ⟨w.heap.size, 2, none⟩ = some (.slice A2 k.fields.length c2') := by rw [<- hWx]; exact r2
  have s3 : Wx.cell? ⟨bs, os + j, none⟩ = some (.string s) := by rw [<- hWx]; exact x0
  clear y0 y1 y2 x1 r0 r1 r2 x0 hWx
  go_wp2_with fail
  refine wp_mid_k 9 _ rfl rfl (by kernel_rfl) (by kernel_rfl) ?_
  simp only [List.take_succ_cons, List.take_zero, List.drop_succ_cons, List.drop_zero]
  repeat (go_big_quiet_step (fail))
  refine wpQuiet_nil ?_
  intro _ hw'
  obtain ⟨nq, hw''⟩ := hw'
  subst hw''
  intro K hK
  have hin := rin_any (k.ofs.take j) s _ (Wx.drewN nq) (htk1.below (below_drewN hBx nq))
  have hlj : (k.ofs.take j).length = j := by simp; omega
  have y0 : (Wx.drewN nq).cell? ⟨w.heap.size, 0, none⟩ = some (.string k.name) := s0
  go_wp2_with fail
  refine hin.mono ?_
  clear hin
  rintro e w4 ⟨rfl, rfl⟩
  generalize hany : (k.ofs.take j).any (fun y => decide (s = y)) = qa at *
  refine hK _ _ ?_
  repeat (go_big_quiet_step (fail))
  refine wpQuiet_nil ?_
  intro _ hw'
  obtain ⟨nq2, hw''⟩ := hw'
  subst hw''
  clear hK
  cases qa with
  | true =>
   have HE : Hid (oneE (l.take i) k = 7) := by unfold Hid; rw [HE3.out, HS2.out, if_pos rfl, if_neg (by omega)]
   clear HE3 HS2 hany
   go_wp2_with fail
   go_ret
   exact ⟨by rw [HE.out]; rfl, below_drewN (below_drewN hBx _) _⟩
  | false =>
   have HN : Hid (ofsE (l.take i) [] k.ofs = ofsE (l.take i) (k.ofs.take (j + 1)) (k.ofs.drop (j + 1))) := by unfold Hid; rw [HS2.out]; simp
   clear HE3 HS2 hany
   go_wp2_with fail
   go_roundw
   case rel => exact ⟨j + 1, by omega, by go_num, below_drewN hbx _, HN⟩
   case measure => simp [intOf]; omega
 obtain rfl : j = k.ofs.length := by omega
 have HO : Hid (ofsE (l.take i) [] k.ofs = 0) := by unfold Hid; rw [HR.out, List.drop_length]; rfl
 have HE4 : Hid (oneE (l.take i) k = if fldsE none k.fields = 0 then sumE (fieldsOf (l.take i ++ [k]) k.name) else fldsE none k.fields) := by unfold Hid; rw [HE3.out, if_pos HO.out]
 clear HE3 HR
 obtain ⟨w2, rfl⟩ : ∃ w2 : World, w2 = wr := ⟨_, rfl⟩
 clear hbr hb2
 go_wp2_with fail
 go_loopw [8] (fun t wx => ∃ j : Nat, j <= k.fields.length /\ t = .int .i64 j /\ Below w2.heap.size w2 wx /\ Hid (fldsE none k.fields = fldsE (prev k.fields j) (k.fields.drop j))) (fun t _ => k.fields.length - (intOf t).toNat)
 case atStart => exact ⟨0, Nat.zero_le _, rfl, Below.refl _ _, rfl⟩
 obtain ⟨j, hj, rfl, hbr, HR⟩ := hrel
 have hBx := hBr.trans (hbr.mono hBr.size)
 have s0 := cell_below hbr r0
 have s1 := cell_below hbr r1
 have s2 := cell_below hbr r2
 clear r0 r1 r2
 by_cases hlt2 : j < k.fields.length
 ·obtain ⟨d, hd⟩ : ∃ d, k.fields[j]? = some d := ⟨_, List.getElem?_eq_getElem hlt2⟩
  obtain ⟨bd, od, rfl, hok, x0, x1, x2, x3⟩ := fld_at (h2.below hBx) hd
  obtain ⟨z0, z1, z2, z3⟩ := cell_box4 wr (.string d.name) (.int .i64 d.ty) (.bool d.must) (.bool d.key) 84
  have hbb := hbr.alloc hbr.size (.cells #[.string d.name, .int .i64 d.ty, .bool d.must, .bool d.key] 84)
  have hBb := hBx.alloc hBx.size (.cells #[.string d.name, .int .i64 d.ty, .bool d.must, .bool d.key] 84)
  have hlt' : (j : Int) < (k.fields.length : Int) := by omega
  have HS : Hid (fldsE none k.fields = if fldE (prev k.fields j) d = 0 then fldsE (prev k.fields (j + 1)) (k.fields.drop (j + 1)) else fldE (prev k.fields j) d) := by
   unfold Hid; rw [HR.out, drop_cons hd, fldsE, prev_succ hd]
  have HD := Lib.hid hd
  clear hd HR
  go_wp2_with fail
  refine (rname_any d.name _ hok.1).mono ?_
  rintro e w3 ⟨rfl, rfl⟩
  by_cases hn : nameE d.name = 0
  case neg =>
   have hn2 := nameE_two hn
   have HE : Hid (oneE (l.take i) k = 2) := by
    have h1 : fldE (prev k.fields j) d = nameE d.name := by unfold fldE; rw [if_neg hn]
    unfold Hid; rw [HE4.out, HS.out, h1, if_neg hn, hn2]; rfl
   rw [hn2]
   clear hn hn2 HE4 HS
   go_wp2_with fail
   go_ret
   exact ⟨by rw [HE.out]; rfl, hBb⟩
  have HQ : Hid (fldE (prev k.fields j) d = if tyB d.ty then (if d.key && !d.must then 3 else match prev k.fields j with | some q => (if ltS q.name d.name then 0 else 7) | none => 0) else 8) := by
   unfold Hid fldE; rw [if_pos hn]; rfl
  rw [hn]
  clear hn
  by_cases ht : tyB d.ty = true
  case neg =>
   have HE : Hid (oneE (l.take i) k = 8) := by
    have h1 : fldE (prev k.fields j) d = 8 := by rw [HQ.out, if_neg ht]
    unfold Hid; rw [HE4.out, HS.out, h1]; rfl
   clear HE4 HS HQ
   have ht2 : d.ty < 1 \/ 3 < d.ty := by
    unfold tyB at ht; simp at ht; omega
   clear ht
   by_cases hlow : d.ty < 1
   ·go_wp2_with fail
    go_ret
    exact ⟨by rw [HE.out]; rfl, hBb⟩
   have hlow' : 1 <= d.ty := by omega
   have hhi : 3 < d.ty := by omega
   clear ht2
   go_wp2_with fail
   go_ret
   exact ⟨by rw [HE.out]; rfl, hBb⟩
  have ht1 : 1 <= d.ty := by unfold tyB at ht; simp at ht; omega
  have ht3 : d.ty <= 3 := by unfold tyB at ht; simp at ht; omega
  have HQ2 : Hid (fldE (prev k.fields j) d = if d.key && !d.must then 3 else match prev k.fields j with | some q => (if ltS q.name d.name then 0 else 7) | none => 0) := by
   exact HQ.out.trans (if_pos ht)
  clear HQ ht
  cases hK : (d.key && !d.must) with
  | true =>
   have HE : Hid (oneE (l.take i) k = 3) := by
    have h1 : fldE (prev k.fields j) d = 3 := by rw [HQ2.out, hK]; rfl
    unfold Hid; rw [HE4.out, HS.out, h1]; rfl
   clear HQ2 HE4 HS
   have hk1 : d.key = true := by cases h : d.key <;> simp [h] at hK ⊢
   have hk2 : d.must = false := by cases h : d.must <;> simp [h] at hK ⊢
   clear hK
   rw [hk1, hk2] at z0 z1 z2 z3
   rw [hk1, hk2]
   go_wp2_with fail
   go_ret
   exact ⟨by rw [HE.out]; rfl, by rw [hk1, hk2] at hBb; exact hBb⟩
  | false =>
   have HQ3 : Hid (fldE (prev k.fields j) d = match prev k.fields j with | some q => (if ltS q.name d.name then 0 else 7) | none => 0) := by
    unfold Hid; rw [HQ2.out, hK]; rfl
   have hkm : d.key = false \/ (d.key = true /\ d.must = true) := by cases h : d.key <;> simp [h] at hK ⊢; exact hK
   clear HQ2 hK
   by_cases h0 : j = 0
   ·subst h0
    have HN : Hid (fldsE none k.fields = fldsE (prev k.fields (0 + 1)) (k.fields.drop (0 + 1))) := by unfold Hid; rw [HS.out, HQ3.out]; rfl
    clear HQ3 HS HE4
    rcases hkm with hk1 | ⟨hk1, hk2⟩
    ·rw [hk1] at z0 z1 z2 z3 hbb
     rw [hk1]
     go_wp2_with fail
     go_quiet (fail)
     go_wp2_with fail
     go_roundw
     case rel => exact ⟨1, by omega, by go_num, below_drewN hbb _, HN⟩
     case measure => simp [intOf]; omega
    rw [hk1, hk2] at z0 z1 z2 z3 hbb
    rw [hk1, hk2]
    go_wp2_with fail
    go_quiet (fail)
    go_wp2_with fail
    go_roundw
    case rel => exact ⟨1, by omega, by go_num, below_drewN hbb _, HN⟩
    case measure => simp [intOf]; omega
   obtain ⟨m, rfl⟩ : ∃ m, j = m + 1 := ⟨j - 1, by omega⟩
   obtain ⟨q, hq⟩ : ∃ q, k.fields[m]? = some q := ⟨_, List.getElem?_eq_getElem (by omega)⟩
   have hm1 : ((m + 1 : Nat) : Int) - 1 = (m : Int) := by omega
   have hm2 : (0 : Int) < ((m + 1 : Nat) : Int) := by omega
   have hm3 : (m : Int) < (k.fields.length : Int) := by omega
   have hpv : prev k.fields (m + 1) = some q := hq
   obtain ⟨b', o', hA', _, y0, _⟩ := fld_at (h2.below hBx) hq
   injection hA' with e5
   injection e5 with e6 e7
   subst e6; subst e7
   have hltS : ltS q.name d.name = decide (0 < cmpS d.name q.name) := by
    rw [ltS_cmp, cmpS_anti d.name q.name]; congr 1; apply propext; omega
   have hL : Op.bytesLess d.name.toList q.name.toList = decide (cmpS d.name q.name < 0) := ltS_cmp d.name q.name
   have hE : (d.name.toList == q.name.toList) = decide (d.name = q.name) := bytes_beq d.name q.name
   have y1 := cell_below ((Below.refl _ _).alloc (Nat.le_refl _) (.cells #[.string d.name, .int .i64 d.ty, .bool d.must, .bool d.key] 84)) y0
   have t2 := cell_below ((Below.refl _ _).alloc (Nat.le_refl _) (.cells #[.string d.name, .int .i64 d.ty, .bool d.must, .bool d.key] 84)) s2
   rcases Int.lt_trichotomy (cmpS d.name q.name) 0 with hc | hc | hc
   ·have hqf : ¬ d.name = q.name := fun e => by rw [cmpS_zero.2 e] at hc; omega
    have HE : Hid (oneE (l.take i) k = 7) := by
     have h1 : fldE (prev k.fields (m + 1)) d = 7 := by rw [HQ3.out, hpv]; simp only; rw [hltS, decide_eq_false (by omega)]; rfl
     unfold Hid; rw [HE4.out, HS.out, h1]; rfl
    rw [decide_eq_true hc] at hL
    rw [decide_eq_false hqf] at hE
    have hE2 : ¬ d.name.toList = q.name.toList := by rw [bytes_eq]; exact hqf
    clear HQ3 HS hq hpv hltS hc hqf HE4
    rcases hkm with hk1 | ⟨hk1, hk2⟩
    ·rw [hk1] at z0 z1 z2 z3 hbb y1 t2 hBb
     rw [hk1]
     go_wp2_with fail
     go_quiet (fail)
     go_wp2_with fail
     go_ret
     exact ⟨by rw [HE.out]; rfl, below_drewN hBb _⟩
    rw [hk1, hk2] at z0 z1 z2 z3 hbb y1 t2 hBb
    rw [hk1, hk2]
    go_wp2_with fail
    go_quiet (fail)
    go_wp2_with fail
    go_ret
    exact ⟨by rw [HE.out]; rfl, below_drewN hBb _⟩
   ·have hqf : d.name = q.name := cmpS_zero.1 hc
    have HE : Hid (oneE (l.take i) k = 7) := by
     have h1 : fldE (prev k.fields (m + 1)) d = 7 := by rw [HQ3.out, hpv]; simp only; rw [hltS, decide_eq_false (by omega)]; rfl
     unfold Hid; rw [HE4.out, HS.out, h1]; rfl
    rw [decide_eq_false (show ¬ cmpS d.name q.name < 0 by omega)] at hL
    rw [decide_eq_true hqf] at hE
    have hE2 : d.name.toList = q.name.toList := by rw [bytes_eq]; exact hqf
    clear HQ3 HS hq hpv hltS hc hqf HE4
    rcases hkm with hk1 | ⟨hk1, hk2⟩
    ·rw [hk1] at z0 z1 z2 z3 hbb y1 t2 hBb
     rw [hk1]
     go_wp2_with fail
     go_quiet (fail)
     go_wp2_with fail
     go_ret
     exact ⟨by rw [HE.out]; rfl, below_drewN hBb _⟩
    rw [hk1, hk2] at z0 z1 z2 z3 hbb y1 t2 hBb
    rw [hk1, hk2]
    go_wp2_with fail
    go_quiet (fail)
    go_wp2_with fail
    go_ret
    exact ⟨by rw [HE.out]; rfl, below_drewN hBb _⟩
   have hqf : ¬ d.name = q.name := fun e => by rw [cmpS_zero.2 e] at hc; omega
   have HN : Hid (fldsE none k.fields = fldsE (prev k.fields (m + 1 + 1)) (k.fields.drop (m + 1 + 1))) := by
    have h1 : fldE (prev k.fields (m + 1)) d = 0 := by rw [HQ3.out, hpv]; simp only; rw [hltS, decide_eq_true hc]; rfl
    unfold Hid; rw [HS.out, h1]; rfl
   rw [decide_eq_false (show ¬ cmpS d.name q.name < 0 by omega)] at hL
   rw [decide_eq_false hqf] at hE
   have hE2 : ¬ d.name.toList = q.name.toList := by rw [bytes_eq]; exact hqf
   clear HQ3 HS hq hpv hltS hc hqf HE4
   rcases hkm with hk1 | ⟨hk1, hk2⟩
   ·rw [hk1] at z0 z1 z2 z3 hbb y1 t2
    rw [hk1]
    go_wp2_with fail
    go_quiet (fail)
    go_wp2_with fail
    go_roundw
    case rel => exact ⟨m + 1 + 1, by omega, by go_num, below_drewN hbb _, HN⟩
    case measure => simp [intOf]; omega
   rw [hk1, hk2] at z0 z1 z2 z3 hbb y1 t2
   rw [hk1, hk2]
   go_wp2_with fail
   go_quiet (fail)
   go_wp2_with fail
   go_roundw
   case rel => exact ⟨m + 1 + 1, by omega, by go_num, below_drewN hbb _, HN⟩
   case measure => simp [intOf]; omega
 obtain rfl : j = k.fields.length := by omega
 have HOf : Hid (fldsE none k.fields = 0) := by unfold Hid; rw [HR.out, List.drop_length]; rfl
 have HE5 : Hid (oneE (l.take i) k = sumE (fieldsOf (l.take i ++ [k]) k.name)) := by unfold Hid; rw [HE4.out, if_pos HOf.out]
 clear HE4 HOf HR
 have HW2 := Lib.hid (wf_snoc HW.out HK.out HNEW.out HO.out)
 have HT := Lib.hid (take_step HK.out)
 have hic2 : (i : Int) + 1 <= (c : Int) := by omega
 have htk2 := HV.out.take (k := i + 1) (by omega)
 go_wp2_with fail
 refine wp_mid_k 6 _ rfl rfl (by kernel_rfl) (by kernel_rfl) ?_
 simp only [List.take_succ_cons, List.take_zero, List.drop_succ_cons, List.drop_zero]
 repeat (go_big_quiet_step (fail))
 refine wpQuiet_nil ?_
 intro _ hw'
 obtain ⟨nq, hw''⟩ := hw'
 subst hw''
 intro K hK
 have hin := rfields_any (l.take (i + 1)) k.name _ (wr.drewN nq) (htk2.below (below_drewN hBx nq)) HW2.out (kFind_mem (k := k) (by rw [HT.out]; simp)) (by simp; omega) (by
  intro x hx
  rw [HT.out] at hx
  rcases List.mem_append.1 hx with h | h
  ·exact HFL.out x h
  simp at h; subst h; omega)
 have y0 : (wr.drewN nq).cell? ⟨w.heap.size, 0, none⟩ = some (.string k.name) := s0
 rw [<- HT.out] at HE5
 go_wp2_with fail
 refine hin.mono ?_
 clear hin
 rintro e w5 ⟨u, rfl, hu, hb5⟩
 have hB5 := (below_drewN hBx nq).trans (hb5.mono (below_drewN hBx nq).size)
 cases hfo : fieldsOf (l.take (i + 1)) k.name with
 | none =>
  have HE : Hid (oneE (l.take i) k = 7) := by unfold Hid; rw [HE5.out, hfo]; rfl
  rw [hfo] at hu
  obtain ⟨A5, c5, rfl, _, _⟩ := hu.form
  clear hfo HE5 hu
  refine hK _ _ ?_
  repeat (go_big_quiet_step (fail))
  refine wpQuiet_nil ?_
  intro _ hw'
  obtain ⟨nq2, hw''⟩ := hw'
  subst hw''
  clear hK
  go_wp2_with fail
  go_ret
  exact ⟨by rw [HE.out]; rfl, below_drewN hB5 _⟩
 | some fs =>
  have HE6 : Hid (oneE (l.take i) k = if 8 < fs.length then 4 else 0) := by unfold Hid; rw [HE5.out, hfo]; rfl
  rw [hfo] at hu
  have hu2 : Sl fldL w5 u fs := hu
  obtain ⟨A5, c5, rfl, _, _⟩ := hu2.form
  clear hfo HE5 hu hu2
  refine hK _ _ ?_
  repeat (go_big_quiet_step (fail))
  refine wpQuiet_nil ?_
  intro _ hw'
  obtain ⟨nq2, hw''⟩ := hw'
  subst hw''
  clear hK
  by_cases h9 : 8 < fs.length
  ·have HE : Hid (oneE (l.take i) k = 4) := by unfold Hid; rw [HE6.out, if_pos h9]
   have h9' : (8 : Int) < (fs.length : Int) := by omega
   clear HE6
   go_wp2_with fail
   go_ret
   exact ⟨by rw [HE.out]; rfl, below_drewN hB5 _⟩
  have HE : Hid (oneE (l.take i) k = 0) := by unfold Hid; rw [HE6.out, if_neg h9]
  have h9' : (fs.length : Int) <= 8 := by omega
  clear HE6
  go_wp2_with fail
  go_ret
  exact ⟨by rw [HE.out]; rfl, below_drewN hB5 _⟩
end Go.Proofs.YtngbbefpphinjaaGreatDoor
