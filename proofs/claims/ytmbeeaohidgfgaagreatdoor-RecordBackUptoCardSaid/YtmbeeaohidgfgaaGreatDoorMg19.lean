/- Parts: DelO, RecU, SamA, SamS, Qg, IntS, GtA. -/
import Derived.Test.YtmbeeaohidgfgaaGreatDoorMg18
import Derived.Test.YtmbeeaohidgfgaaGreatDoorMg05
import Derived.Test.YtmbeeaohidgfgaaGreatDoorMg07
import Derived.Test.YtmbeeaohidgfgaaGreatDoorMg08
import Derived.Test.YtmbeeaohidgfgaaGreatDoorMg10
import Derived.Deep.DeepCutAuto
/- Contracts: slices.Delete of one node, of one tie, of one property. -/
namespace Go.Proofs.YtmbeeaohidgfgaaGreatDoor
open Go Go.RowKit

theorem wp_append_z {P : Program} (w : World) {o : Oper} {a : Act} {K : Act → World → Prop} {Q : Exit → Act → World → Prop} (s x : Operand) (t tn : TypeId)
    (ho : o.op = .call { callee := .builtin .append, args := #[s, x], argTypes := #[t, tn] }) (v u : Value) (hs : a.eval s = v) (hx : a.eval x = u) {v' : Value} {w' : World}
    (hr : (Builtin.append_ #[t, tn] o.type #[v, u]).run P w = .ok v' w') (h : K (a.put o.dst v') w') : o.wp P a w K Q := by
  unfold Oper.wp execOp
  simp only [ho, resolve, invoke, builtin, Sem.run_bind, Sem.run_pure, Result.andThen_ok, List.map_toArray, List.map_cons, List.map_nil, hs, hx, hr]
  exact h


set_option maxRecDepth 100000 in
set_option maxHeartbeats 8000000 in
theorem del1_prps (w : World) (B : Nat) (v : Value) (m : Nat) (xs : List Value) (hown : Own w B 27 4 v (m + 1) xs) (i : Nat) (hi : i ≤ m) (hx1 : ∀ u ∈ xs, u.oneCell' = true) (hm : m ≤ 1000000) :
    Calls Tryz.prog 29 #[v, .int .i64 i, .int .i64 ((i : Int) + 1)] w fun e w' => ∃ u, e = .returned u ∧ Own w' B 27 4 u m (xs.take (i * 4) ++ xs.drop ((i + 1) * 4)) ∧ w.grownBy w' v.ownBlock ∧ u.ownBlock = v.ownBlock := by
  obtain ⟨i0, ei, ez, ez1, ez2⟩ := info_parts clone_prps_info
  obtain ⟨g, o, c, rfl, hBg, hgl⟩ := hown.addr (by omega)
  obtain ⟨_, c', hv, hmc, hcm⟩ := hown.form
  injection hv with hvA hvL hvC
  subst hvC
  clear hvL hvA
  unfold maxLen at hcm
  have hlen := hown.1
  have e1 : xs.take (i * 4) ++ xs.drop ((i + 1) * 4) = (xs.take (i * 4) ++ xs.drop ((i + 1) * 4) ++ xs.drop ((m + 1 - 1) * 4)).take (m * 4) :=
    (List.take_left' (by rw [List.length_append, List.length_take, List.length_drop, hlen]; omega)).symm
  have hfin : ∀ w1, Own w1 B 27 4 (.slice (some ⟨g, o, none⟩) (m + 1) c) (m + 1) (xs.take (i * 4) ++ xs.drop ((i + 1) * 4) ++ xs.drop ((m + 1 - 1) * 4)) → w.grownBy w1 (some g) →
      ∃ w9, (∀ ty c', (Builtin.clear_ #[23] ty #[.slice (some ⟨g, o + m * 4, none⟩) 1 c']).run Tryz.prog w1 = .ok (.tuple #[]) w9) ∧ Own w9 B 27 4 (.slice (some ⟨g, o, none⟩) m c) m (xs.take (i * 4) ++ xs.drop ((i + 1) * 4)) ∧ w.grownBy w9 (some g) := fun w1 h1 h2 => by
    obtain ⟨w9, hr9, ho9, hg9⟩ := h1.clear (P := Tryz.prog) (i := m) 23 i0 (.agg #[.string .empty, .int .i64 0, .int .i64 0, .string .empty]) 4 Tryz.underlying23 ei ez rfl (by kernel_rfl) (by decide) (by omega)
    rw [show m + 1 - m = 1 by omega] at hr9
    rw [← e1] at ho9
    exact ⟨w9, hr9, ho9, h2.trans hg9⟩
  have HF := Lib.hid hfin
  have hne : ((i : Int) == (i : Int) + 1) = false := beq_eq_false_iff_ne.2 (by omega)
  have hi' : (i : Int) ≤ (m : Int) := by omega
  have hm' : (m : Int) ≤ 1000000 := by omega
  have hmc' : (m : Int) + 1 ≤ (c : Int) := by omega
  have hcm' : ¬ c = m := by omega
  have hgd : ∀ nq, w.grownBy (w.drewN nq) (some g) := fun nq => (grownBy_refl w _).drawnN nq
  by_cases hc : c = i + 1
  · have him : m = i := by omega
    have hsh : ∀ nq, ∃ w1, (∀ ty c', (Builtin.append_ #[23, 23] ty #[.slice (some ⟨g, o, none⟩) i c, .slice (some ⟨g, o, none⟩) 0 c']).run Tryz.prog (w.drewN nq) = .ok (.slice (some ⟨g, o, none⟩) m c) w1) ∧
        Own w1 B 27 4 (.slice (some ⟨g, o, none⟩) (m + 1) c) (m + 1) (xs.take (i * 4) ++ xs.drop ((i + 1) * 4) ++ xs.drop ((m + 1 - 1) * 4)) ∧ w.grownBy w1 (some g) := fun nq => by
      obtain ⟨w1, hr1, ho1, hg1⟩ := (hown.drewN nq).shift (P := Tryz.prog) 23 i0 Tryz.underlying23 ei ez1 hx1 (show i < m + 1 by omega) ⟨g, o, none⟩ (fun j u hj => by
        rw [List.drop_of_length_le (by rw [hlen, him]; exact Nat.le_refl _)] at hj; simp at hj)
      rw [show m + 1 - (i + 1) = 0 by omega, show m + 1 - 1 = m by omega] at hr1
      exact ⟨w1, hr1, ho1, (hgd nq).trans hg1⟩
    have HSH := Lib.hid hsh
    subst him
    subst hc
    clear hown hx1 hfin hsh hgd e1 hlen ei ez ez1 ez2
    go_enter Tryz.func29, Tryz.ntmps29
    go_wp2_with fail
    refine wp_mid_k 6 _ rfl rfl (by kernel_rfl) (by kernel_rfl) ?_
    simp only [List.take_succ_cons, List.take_zero, List.drop_succ_cons, List.drop_zero]
    repeat (go_big_quiet_step (fail))
    refine wpQuiet_nil ?_
    intro _ hw'
    obtain ⟨nq, hw''⟩ := hw'
    subst hw''
    intro K hK
    obtain ⟨w1, hr1, ho1, hg1⟩ := HSH.out nq
    refine wp_append_z _ (.tmp 22) (.tmp 25) _ _ rfl _ _ rfl rfl (hr1 _ _) ?_
    refine hK _ _ ?_
    go_frame
    repeat (go_big_quiet_step (fail))
    refine wpQuiet_nil ?_
    intro _ hw'
    obtain ⟨nq2, hw''⟩ := hw'
    subst hw''
    clear hK
    obtain ⟨w9, hr9, ho9, hg9⟩ := HF.out (w1.drewN nq2) (ho1.drewN nq2) (hg1.drawnN nq2)
    clear hr1 ho1 hg1
    go_wp2_with (at_builtin; refine wpList_clear_q _ rfl (.tmp 31) _ rfl _ rfl (hr9 _ _) ?_)
    go_ret
    exact ⟨_, rfl, ho9, hg9, rfl⟩
  · have hsh : ∀ nq, ∃ w1, (∀ ty c', (Builtin.append_ #[23, 23] ty #[.slice (some ⟨g, o, none⟩) i c, .slice (some ⟨g, o + (i + 1) * 4, none⟩) (m - i) c']).run Tryz.prog (w.drewN nq) = .ok (.slice (some ⟨g, o, none⟩) m c) w1) ∧
        Own w1 B 27 4 (.slice (some ⟨g, o, none⟩) (m + 1) c) (m + 1) (xs.take (i * 4) ++ xs.drop ((i + 1) * 4) ++ xs.drop ((m + 1 - 1) * 4)) ∧ w.grownBy w1 (some g) := fun nq => by
      obtain ⟨w1, hr1, ho1, hg1⟩ := (hown.drewN nq).shift (P := Tryz.prog) 23 i0 Tryz.underlying23 ei ez1 hx1 (show i < m + 1 by omega) ⟨g, o + (i + 1) * 4, none⟩ (fun j u hj => by
        rw [addr_add, Nat.add_assoc]
        rw [List.getElem?_drop] at hj
        exact (hown.drewN nq).cell rfl hj)
      rw [show m + 1 - (i + 1) = m - i by omega, show m + 1 - 1 = m by omega] at hr1
      exact ⟨w1, hr1, ho1, (hgd nq).trans hg1⟩
    have HSH := Lib.hid hsh
    clear hown hx1 hfin hsh hgd e1 hlen ei ez ez1 ez2
    go_enter Tryz.func29, Tryz.ntmps29
    go_wp2_with fail
    refine wp_mid_k 6 _ rfl rfl (by kernel_rfl) (by kernel_rfl) ?_
    simp only [List.take_succ_cons, List.take_zero, List.drop_succ_cons, List.drop_zero]
    repeat (go_big_quiet_step (fail))
    refine wpQuiet_nil ?_
    intro _ hw'
    obtain ⟨nq, hw''⟩ := hw'
    subst hw''
    intro K hK
    obtain ⟨w1, hr1, ho1, hg1⟩ := HSH.out nq
    refine wp_append_z _ (.tmp 22) (.tmp 25) _ _ rfl _ _ rfl rfl (hr1 _ _) ?_
    refine hK _ _ ?_
    go_frame
    repeat (go_big_quiet_step (fail))
    refine wpQuiet_nil ?_
    intro _ hw'
    obtain ⟨nq2, hw''⟩ := hw'
    subst hw''
    clear hK
    obtain ⟨w9, hr9, ho9, hg9⟩ := HF.out (w1.drewN nq2) (ho1.drewN nq2) (hg1.drawnN nq2)
    clear hr1 ho1 hg1
    go_wp2_with (at_builtin; refine wpList_clear_q _ rfl (.tmp 31) _ rfl _ rfl (hr9 _ _) ?_)
    go_ret
    exact ⟨_, rfl, ho9, hg9, rfl⟩

set_option maxRecDepth 100000 in
set_option maxHeartbeats 4000000 in
theorem unset_own (r : List Prp) (nm : ByteArray) (v : Value) (w : World) (hv : Sl prpL w v r) :
    Calls Tryz.prog 12 #[v, .string nm] w (RetO (unsetR r nm) (unsetE r nm) w) := by
  have h1 := recCheck_any r v _ hv
  have HV := Lib.hid hv
  obtain ⟨A, c, rfl, _, _⟩ := hv.form
  clear hv
  go_enter Tryz.func12, Tryz.ntmps12
  go_wp2_with fail
  refine h1.mono ?_
  clear h1
  rintro e w1 ⟨rfl, hb1⟩
  by_cases he : recE r = 0
  case neg =>
    have HE : Hid (errV (unsetE r nm) = .iface 74 (.int .i64 (recE r)) ∧ unsetR r nm = []) := by
      have h0 : unsetE r nm = recE r := by unfold unsetE; rw [if_neg he]
      exact ⟨by rw [h0]; exact errV_some he, by unfold unsetR; rw [h0, if_neg he]⟩
    rw [errV_some he]
    clear he
    go_wp2_with fail
    go_ret2
    exact ⟨.slice none 0 0, by rw [HE.out.1]; rfl, by rw [HE.out.2]; exact OwnP.nil, hb1⟩
  obtain ⟨hl8, _, hch⟩ := rec_ok he
  have HE : Hid (unsetE r nm = if rhas r nm then 0 else 5) := by unfold Hid unsetE; rw [if_pos he]
  have HR : Hid (unsetR r nm = if unsetE r nm = 0 then r.take (rpos r nm) ++ r.drop (rpos r nm + 1) else []) := rfl
  rw [errV_zero he]
  have hfd := rfind_any r nm _ w1 (HV.out.below hb1) hch (by omega)
  clear he hch
  go_wp2_with fail
  refine hfd.mono ?_
  clear hfd
  rintro e w2 ⟨rfl, hb2⟩
  have hB2 := hb1.trans (hb2.mono hb1.size)
  cases hq : rhas r nm with
  | false =>
    have HF : Hid (errV (unsetE r nm) = .iface 74 (.int .i64 5) ∧ unsetR r nm = []) := by
      have h0 : unsetE r nm = 5 := by rw [HE.out, hq]; rfl
      exact ⟨by rw [h0]; rfl, by rw [HR.out, h0, if_neg (by omega)]⟩
    clear hq HE HR
    go_wp2_with fail
    go_ret2
    exact ⟨.slice none 0 0, by rw [HF.out.1]; rfl, by rw [HF.out.2]; exact OwnP.nil, hB2⟩
  | true =>
    obtain ⟨d, hd⟩ := rhas_some hq
    have hkl := (List.getElem?_eq_some_iff.1 hd).1
    obtain ⟨m, hm⟩ : ∃ m, r.length = m + 1 := ⟨r.length - 1, by omega⟩
    have HF : Hid (errV (unsetE r nm) = .nilIface ∧ unsetR r nm = r.take (rpos r nm) ++ r.drop (rpos r nm + 1)) := by
      have h0 : unsetE r nm = 0 := by rw [HE.out, hq]; rfl
      exact ⟨by rw [h0]; rfl, by rw [HR.out, h0, if_pos rfl]⟩
    have hcl := clone_prps (HV.out.below hB2) (by omega)
    have hKi : ((rpos r nm : Nat) : Int) ≤ 8 := by omega
    have HL : Hid ((unsetR r nm).length = m) := by unfold Hid; rw [HF.out.2]; simp; omega
    have HO : Hid (∀ x ∈ r, x.ok → x.ok) := fun x _ h => h
    have HM : Hid (∀ x ∈ unsetR r nm, x ∈ r) := fun x hx => by
      rw [HF.out.2] at hx
      rcases List.mem_append.1 hx with h | h
      · exact List.mem_of_mem_take h
      · exact List.mem_of_mem_drop h
    generalize rpos r nm = K at *
    have HM0 := Lib.hid hm
    clear hq HE HR hd hm
    go_wp2_with fail
    refine hcl.mono ?_
    clear hcl
    rintro e w3 ⟨v3, xs, rfl, hown, hrow, hb3⟩
    obtain ⟨rfl, hoks⟩ := Row.flat hrow
    have hown : Own w3 w2.heap.size 27 4 v3 r.length (r.flatMap Prp.enc) := hown
    have hB3 := hB2.trans (hb3.mono hB2.size)
    have hs2 := hB2.size
    have HOK := Lib.hid hoks
    rw [HM0.out] at hown
    have hm := HM0.out
    have hdel := del1_prps w3 w2.heap.size v3 m (r.flatMap Prp.enc) hown K (by omega) (oneCell_flat Prp.enc_one r) (by omega)
    rw [flat_take Prp.enc_len r K (by omega), flat_drop Prp.enc_len r (K + 1) (by omega), ← List.flatMap_append, ← HF.out.2] at hdel
    have HW := Lib.hid hown
    obtain ⟨A3, c3, rfl, _, _⟩ := hown.form
    rw [hm]
    clear hown hrow hoks hm
    go_wp2_with fail
    refine hdel.mono ?_
    clear hdel
    rintro e w4 ⟨u4, rfl, ho4, hg4, hu4⟩
    have hB4 : Below w.heap.size w w4 := hB3.grown hg4 (by have := hb3.size; omega) (fun kk e => by have := (HW.out.lt kk e).1; omega)
    have HO4 := Lib.hid ho4
    obtain ⟨A4, c4, rfl, _, _⟩ := ho4.form
    clear ho4 hg4 hu4
    go_wp2_with fail
    go_ret2
    exact ⟨.slice A4 m c4, by rw [HF.out.1]; rfl, ⟨by rw [HL.out]; exact HO4.out.mono hs2, fun x hx => HOK.out x (HM.out x hx)⟩, hB4⟩


theorem drewN_step {w wr : World} (h : ∃ m, wr = w.drewN m) (n : Nat) : ∃ m, wr.drewN n = w.drewN m := by
  obtain ⟨m, rfl⟩ := h
  exact ⟨m + n, World.drewN_drewN ..⟩
/-- Two lists, place by place. -/
theorem lists_eq {D : Type} [DecidableEq D] {a b : List D} (hl : a.length = b.length) (h : ∀ j x y, j < a.length → a[j]? = some x → b[j]? = some y → x = y) : a = b := by
  apply List.ext_getElem? 
  intro i
  by_cases hi : i < a.length
  · have h1 := List.getElem?_eq_getElem hi
    have h2 : b[i]? = some b[i] := List.getElem?_eq_getElem (by omega)
    rw [h1, h2, h i _ _ hi h1 h2]
  · rw [List.getElem?_eq_none (by omega), List.getElem?_eq_none (by omega)]

open Go Go.RowKit Go.Sort
section
variable {P : Program} {ops : Array Oper} {md : Region.Mode} {C : World → Prop}
end





theorem prp_guard (op : BinOp) (a b : Operand) (xs ys : Array Value) (w : World) : (eqGuard op 27 a b (.agg xs) (.agg ys)).run Tryz.prog w = .ok () w := run_eqGuard_agg w op 27 a b xs ys (by kernel_rfl)
theorem pval_same (d : Nat) (x y : Val) (w : World) : (Op.equalIn (d + 2) 25 (.agg #[.int .i64 x.ty, .int .i64 x.n, .string x.s]) (.agg #[.int .i64 y.ty, .int .i64 y.n, .string y.s])).run Tryz.prog w = .ok (decide (x = y)) w := by
  have hS : Tryz.prog.underlying 25 = some (.struct (Tryz.prog.fieldsOf 25)) := by kernel_rfl
  have hp : Tryz.prog.stoodInHeld 25 = false := by kernel_rfl
  have e1 := Tryz.underlying9
  have e2 := Tryz.underlying3
  rw [run_equalIn_agg w (d + 1) 25 _ _ hS hp]
  simp only [Program.fieldsOf, Tryz.underlying25]
  go_simp
  simp only [bytes_eq]
  cases x; cases y
  simp only [Val.mk.injEq]
  rename_i a b c a' b' c'
  by_cases h1 : a = a' <;> by_cases h2 : b = b' <;> by_cases h3 : c = c' <;> simp [h1, h2, h3]
set_option maxRecDepth 100000 in
theorem prp_same (d : Nat) (x y : Prp) (w : World) : (Op.equalIn (d + 3) 27 (.agg #[.string x.name, .int .i64 x.v.ty, .int .i64 x.v.n, .string x.v.s]) (.agg #[.string y.name, .int .i64 y.v.ty, .int .i64 y.v.n, .string y.v.s])).run Tryz.prog w = .ok (decide (x = y)) w := by
  have hS : Tryz.prog.underlying 27 = some (.struct (Tryz.prog.fieldsOf 27)) := by kernel_rfl
  have hp : Tryz.prog.stoodInHeld 27 = false := by kernel_rfl
  have hv := pval_same d x.v y.v w
  have e1 := Tryz.underlying9
  have e2 := Tryz.underlying3
  have e3 := Tryz.underlying25
  have HV := Lib.hid hv
  clear hv
  rw [run_equalIn_agg w (d + 2) 27 _ _ hS hp]
  simp only [Program.fieldsOf, Tryz.underlying27]
  clear hS hp
  go_simp
  clear HV
  simp only [bytes_eq]
  cases x with | mk f v => cases y with | mk f' v' =>
  cases v; cases v'
  simp only [Prp.mk.injEq, Val.mk.injEq]
  rename_i a b c a' b' c'
  by_cases h0 : f = f' <;> by_cases h1 : a = a' <;> by_cases h2 : b = b' <;> by_cases h3 : c = c' <;> simp [h0, h1, h2, h3]
theorem prp_neq (x y : Prp) (w : World) : (binOp .neq 27 (.agg #[.string x.name, .int .i64 x.v.ty, .int .i64 x.v.n, .string x.v.s]) (.agg #[.string y.name, .int .i64 y.v.ty, .int .i64 y.v.n, .string y.v.s])).run Tryz.prog w = .ok (.bool (!decide (x = y))) w := by
  rw [run_neq_struct, show (10000 : Nat) = 9997 + 3 from rfl, prp_same]; rfl
set_option maxHeartbeats 1000000 in
theorem srecord_any_q (a b : List Prp) (va vb : Value) (w : World) (ha : Sl prpL w va a) (hb : Sl prpL w vb b) : Calls Tryz.prog 9 #[va, vb] w fun e w' => e = .returned (.bool (decide (a = b))) ∧ ∃ m, w' = w.drewN m := by
  obtain ⟨A, c, rfl, _, hcm⟩ := ha.form
  obtain ⟨B, d, rfl, _, hdm⟩ := hb.form
  unfold maxLen at hcm hdm
  by_cases hl : a.length = b.length
  case neg =>
    have HE : Hid (decide (a = b) = false) := decide_eq_false fun e => hl (by rw [e])
    have hl' : decide ((a.length : Int) = (b.length : Int)) = false := decide_eq_false (by omega)
    have hl2 : ((a.length : Int) == (b.length : Int)) = false := by rw [beq_eq_false_iff_ne]; omega
    clear ha hb hl
    go_enter Tryz.func9, Tryz.ntmps9
    go_wp2_with fail
    go_ret
    exact ⟨by rw [HE.out]; rfl, 0, rfl⟩
  have HL := Lib.hid hl
  have hlb : a.length ≤ b.length := by omega
  rw [← hl]
  clear hl
  go_enter Tryz.func9, Tryz.ntmps9
  go_wp2_with fail
  go_loopw [5] (fun i wr => ∃ k : Nat, k ≤ a.length ∧ i = .int .i64 k ∧ Below w.heap.size w wr ∧ Hid (∃ m, wr = w.drewN m) ∧ Hid (∀ j x y, j < k → a[j]? = some x → b[j]? = some y → x = y)) (fun i _ => a.length - (intOf i).toNat)
  case atStart => exact ⟨0, Nat.zero_le _, rfl, Below.refl _ _, ⟨0, rfl⟩, fun j x y hj => absurd hj (Nat.not_lt_zero _)⟩
  case round =>
    obtain ⟨k, hk, rfl, hbr, HM, HA⟩ := hrel
    by_cases hlt : k < a.length
    · obtain ⟨x, hx⟩ : ∃ d, a[k]? = some d := ⟨_, List.getElem?_eq_getElem hlt⟩
      obtain ⟨y, hy⟩ : ∃ d, b[k]? = some d := ⟨_, List.getElem?_eq_getElem (by omega)⟩
      have hlt' : (k : Int) < (a.length : Int) := by omega
      obtain ⟨b1, o1, rfl, _, x0, x1, x2, x3⟩ := prp_at (ha.below hbr) hx
      obtain ⟨b2, o2, rfl, _, y0, y1, y2, y3⟩ := prp_at (hb.below hbr) hy
      have hneq := prp_neq x y
      have hgd := prp_guard
      have HX := Lib.hid hx
      have HY := Lib.hid hy
      clear hx hy
      by_cases hq : x = y
      · have HS : Hid (∀ j x y, j < k + 1 → a[j]? = some x → b[j]? = some y → x = y) := fun j p q hj hp hq2 => by
          by_cases hjk : j = k
          · subst hjk
            have e1 := HX.out.symm.trans hp
            have e2 := HY.out.symm.trans hq2
            injection e1 with e1; injection e2 with e2
            rw [← e1, ← e2]; exact hq
          · exact HA.out j p q (by omega) hp hq2
        rw [decide_eq_true hq] at hneq
        clear ha hb hq
        go_wp2_with fail
        go_quiet (fail)
        go_wp2_with fail
        go_roundw
        case rel => exact ⟨k + 1, by omega, by go_num, below_drewN hbr _, drewN_step HM.out nq, HS⟩
        case measure => simp [intOf]; omega
      · have HE : Hid (decide (a = b) = false) := decide_eq_false fun e => by
          have e1 := HX.out
          rw [e, HY.out] at e1
          injection e1 with e1
          exact hq e1.symm
        rw [decide_eq_false hq] at hneq
        clear ha hb hq
        go_wp2_with fail
        go_quiet (fail)
        go_wp2_with fail
        go_ret
        exact ⟨by rw [HE.out]; rfl, drewN_step HM.out nq⟩
    · obtain rfl : k = a.length := by omega
      have HE : Hid (decide (a = b) = true) := decide_eq_true (lists_eq HL.out HA.out)
      clear ha hb
      go_wp2_with fail
      go_ret
      exact ⟨by rw [HE.out]; rfl, HM.out⟩
theorem srecord_any (a b : List Prp) (va vb : Value) (w : World) (ha : Sl prpL w va a) (hb : Sl prpL w vb b) : Calls Tryz.prog 9 #[va, vb] w fun e w' => e = .returned (.bool (decide (a = b))) ∧ Below w.heap.size w w' :=
  (srecord_any_q a b va vb w ha hb).mono fun _ _ ⟨h, m, hm⟩ => ⟨h, by rw [hm]; exact below_drewN (Below.refl _ _) m⟩
/-! ### Two nodes -/

end Go.Proofs.YtmbeeaohidgfgaaGreatDoor
