/- Parts: DelO, DelK. -/
import Derived.Test.YtldonhgcifhpgaaMg15
import Derived.Test.YtldonhgcifhpgaaMg13
import Derived.Test.YtldonhgcifhpgaaMg14
/- Contracts: slices.Delete of one node, of one tie, of one property. -/
namespace Go.Proofs.Ytldonhgcifhpgaa
open Go Go.RowKit

theorem wp_append_z {P : Program} (w : World) {o : Oper} {a : Act} {K : Act → World → Prop} {Q : Exit → Act → World → Prop} (s x : Operand) (t tn : TypeId)
    (ho : o.op = .call { callee := .builtin .append, args := #[s, x], argTypes := #[t, tn] }) (v u : Value) (hs : a.eval s = v) (hx : a.eval x = u) {v' : Value} {w' : World}
    (hr : (Builtin.append_ #[t, tn] o.type #[v, u]).run P w = .ok v' w') (h : K (a.put o.dst v') w') : o.wp P a w K Q := by
  unfold Oper.wp execOp
  simp only [ho, resolve, invoke, builtin, Sem.run_bind, Sem.run_pure, Result.andThen_ok, List.map_toArray, List.map_cons, List.map_nil, hs, hx, hr]
  exact h


set_option maxRecDepth 100000 in
set_option maxHeartbeats 8000000 in
theorem del1_nods (w : World) (B : Nat) (v : Value) (m : Nat) (xs : List Value) (hown : Own w B 72 3 v (m + 1) xs) (i : Nat) (hi : i ≤ m) (hx1 : ∀ u ∈ xs, u.oneCell' = true) (hm : m ≤ 1000000) :
    Calls Try.prog 137 #[v, .int .i64 i, .int .i64 ((i : Int) + 1)] w fun e w' => ∃ u, e = .returned u ∧ Own w' B 72 3 u m (xs.take (i * 3) ++ xs.drop ((i + 1) * 3)) ∧ w.grownBy w' v.ownBlock ∧ u.ownBlock = v.ownBlock := by
  obtain ⟨i0, ei, ez, ez1, ez2⟩ := info_parts clone_nods_info
  obtain ⟨g, o, c, rfl, hBg, hgl⟩ := hown.addr (by omega)
  obtain ⟨_, c', hv, hmc, hcm⟩ := hown.form
  injection hv with hvA hvL hvC
  subst hvC
  clear hvL hvA
  unfold maxLen at hcm
  have hlen := hown.1
  have e1 : xs.take (i * 3) ++ xs.drop ((i + 1) * 3) = (xs.take (i * 3) ++ xs.drop ((i + 1) * 3) ++ xs.drop ((m + 1 - 1) * 3)).take (m * 3) :=
    (List.take_left' (by rw [List.length_append, List.length_take, List.length_drop, hlen]; omega)).symm
  have hfin : ∀ w1, Own w1 B 72 3 (.slice (some ⟨g, o, none⟩) (m + 1) c) (m + 1) (xs.take (i * 3) ++ xs.drop ((i + 1) * 3) ++ xs.drop ((m + 1 - 1) * 3)) → w.grownBy w1 (some g) →
      ∃ w9, (∀ ty c', (Builtin.clear_ #[67] ty #[.slice (some ⟨g, o + m * 3, none⟩) 1 c']).run Try.prog w1 = .ok (.tuple #[]) w9) ∧ Own w9 B 72 3 (.slice (some ⟨g, o, none⟩) m c) m (xs.take (i * 3) ++ xs.drop ((i + 1) * 3)) ∧ w.grownBy w9 (some g) := fun w1 h1 h2 => by
    obtain ⟨w9, hr9, ho9, hg9⟩ := h1.clear (P := Try.prog) (i := m) 67 i0 (.agg #[.int .i64 0, .string .empty, .slice none 0 0]) 3 Try.underlying67 ei ez rfl (by kernel_rfl) (by decide) (by omega)
    rw [show m + 1 - m = 1 by omega] at hr9
    rw [← e1] at ho9
    exact ⟨w9, hr9, ho9, h2.trans hg9⟩
  have HF := Lib.hid hfin
  have hne : ((i : Int) == (i : Int) + 1) = false := beq_eq_false_iff_ne.2 (by omega)
  have hi' : (i : Int) ≤ (m : Int) := by omega
  have hm' : (m : Int) ≤ 1000000 := by omega
  have hmc' : (m : Int) + 1 ≤ (c : Int) := by omega
  have hcm' : ¬ c = m := by omega
  have hgd : ∀ nq, w.grownBy (w.drewN nq) (some g) := fun nq => (grownBy_refl w _).drawnN nq
  by_cases hc : c = i + 1
  · have him : m = i := by omega
    have hsh : ∀ nq, ∃ w1, (∀ ty c', (Builtin.append_ #[67, 67] ty #[.slice (some ⟨g, o, none⟩) i c, .slice (some ⟨g, o, none⟩) 0 c']).run Try.prog (w.drewN nq) = .ok (.slice (some ⟨g, o, none⟩) m c) w1) ∧
        Own w1 B 72 3 (.slice (some ⟨g, o, none⟩) (m + 1) c) (m + 1) (xs.take (i * 3) ++ xs.drop ((i + 1) * 3) ++ xs.drop ((m + 1 - 1) * 3)) ∧ w.grownBy w1 (some g) := fun nq => by
      obtain ⟨w1, hr1, ho1, hg1⟩ := (hown.drewN nq).shift (P := Try.prog) 67 i0 Try.underlying67 ei ez1 hx1 (show i < m + 1 by omega) ⟨g, o, none⟩ (fun j u hj => by
        rw [List.drop_of_length_le (by rw [hlen, him]; exact Nat.le_refl _)] at hj; simp at hj)
      rw [show m + 1 - (i + 1) = 0 by omega, show m + 1 - 1 = m by omega] at hr1
      exact ⟨w1, hr1, ho1, (hgd nq).trans hg1⟩
    have HSH := Lib.hid hsh
    subst him
    subst hc
    clear hown hx1 hfin hsh hgd e1 hlen ei ez ez1 ez2
    go_enter Try.func137, Try.ntmps137
    go_wp2_with fail
    refine wp_mid_k 6 _ rfl rfl (by kernel_rfl) (by kernel_rfl) ?_
    simp only [List.take_succ_cons, List.take_zero, List.drop_succ_cons, List.drop_zero]
    repeat (go_big_quiet_step (fail))
    refine wpQuiet_nil ?_
    intro _ hw'
    obtain ⟨nq, hw''⟩ := hw'
    subst hw''
    intro K hK
    obtain ⟨w1, hr1, ho1, hg1⟩ := HSH.out nq
    refine wp_append_z _ (.tmp 22) (.tmp 25) _ _ rfl _ _ rfl rfl (hr1 _ _) ?_
    refine hK _ _ ?_
    go_frame
    repeat (go_big_quiet_step (fail))
    refine wpQuiet_nil ?_
    intro _ hw'
    obtain ⟨nq2, hw''⟩ := hw'
    subst hw''
    clear hK
    obtain ⟨w9, hr9, ho9, hg9⟩ := HF.out (w1.drewN nq2) (ho1.drewN nq2) (hg1.drawnN nq2)
    clear hr1 ho1 hg1
    go_wp2_with (at_builtin; refine wpList_clear_q _ rfl (.tmp 31) _ rfl _ rfl (hr9 _ _) ?_)
    go_ret
    exact ⟨_, rfl, ho9, hg9, rfl⟩
  · have hsh : ∀ nq, ∃ w1, (∀ ty c', (Builtin.append_ #[67, 67] ty #[.slice (some ⟨g, o, none⟩) i c, .slice (some ⟨g, o + (i + 1) * 3, none⟩) (m - i) c']).run Try.prog (w.drewN nq) = .ok (.slice (some ⟨g, o, none⟩) m c) w1) ∧
        Own w1 B 72 3 (.slice (some ⟨g, o, none⟩) (m + 1) c) (m + 1) (xs.take (i * 3) ++ xs.drop ((i + 1) * 3) ++ xs.drop ((m + 1 - 1) * 3)) ∧ w.grownBy w1 (some g) := fun nq => by
      obtain ⟨w1, hr1, ho1, hg1⟩ := (hown.drewN nq).shift (P := Try.prog) 67 i0 Try.underlying67 ei ez1 hx1 (show i < m + 1 by omega) ⟨g, o + (i + 1) * 3, none⟩ (fun j u hj => by
        rw [addr_add, Nat.add_assoc]
        rw [List.getElem?_drop] at hj
        exact (hown.drewN nq).cell rfl hj)
      rw [show m + 1 - (i + 1) = m - i by omega, show m + 1 - 1 = m by omega] at hr1
      exact ⟨w1, hr1, ho1, (hgd nq).trans hg1⟩
    have HSH := Lib.hid hsh
    clear hown hx1 hfin hsh hgd e1 hlen ei ez ez1 ez2
    go_enter Try.func137, Try.ntmps137
    go_wp2_with fail
    refine wp_mid_k 6 _ rfl rfl (by kernel_rfl) (by kernel_rfl) ?_
    simp only [List.take_succ_cons, List.take_zero, List.drop_succ_cons, List.drop_zero]
    repeat (go_big_quiet_step (fail))
    refine wpQuiet_nil ?_
    intro _ hw'
    obtain ⟨nq, hw''⟩ := hw'
    subst hw''
    intro K hK
    obtain ⟨w1, hr1, ho1, hg1⟩ := HSH.out nq
    refine wp_append_z _ (.tmp 22) (.tmp 25) _ _ rfl _ _ rfl rfl (hr1 _ _) ?_
    refine hK _ _ ?_
    go_frame
    repeat (go_big_quiet_step (fail))
    refine wpQuiet_nil ?_
    intro _ hw'
    obtain ⟨nq2, hw''⟩ := hw'
    subst hw''
    clear hK
    obtain ⟨w9, hr9, ho9, hg9⟩ := HF.out (w1.drewN nq2) (ho1.drewN nq2) (hg1.drawnN nq2)
    clear hr1 ho1 hg1
    go_wp2_with (at_builtin; refine wpList_clear_q _ rfl (.tmp 31) _ rfl _ rfl (hr9 _ _) ?_)
    go_ret
    exact ⟨_, rfl, ho9, hg9, rfl⟩
set_option maxRecDepth 100000 in
set_option maxHeartbeats 8000000 in
theorem del1_ties (w : World) (B : Nat) (v : Value) (m : Nat) (xs : List Value) (hown : Own w B 74 3 v (m + 1) xs) (i : Nat) (hi : i ≤ m) (hx1 : ∀ u ∈ xs, u.oneCell' = true) (hm : m ≤ 1000000) :
    Calls Try.prog 142 #[v, .int .i64 i, .int .i64 ((i : Int) + 1)] w fun e w' => ∃ u, e = .returned u ∧ Own w' B 74 3 u m (xs.take (i * 3) ++ xs.drop ((i + 1) * 3)) ∧ w.grownBy w' v.ownBlock ∧ u.ownBlock = v.ownBlock := by
  obtain ⟨i0, ei, ez, ez1, ez2⟩ := info_parts clone_ties_info
  obtain ⟨g, o, c, rfl, hBg, hgl⟩ := hown.addr (by omega)
  obtain ⟨_, c', hv, hmc, hcm⟩ := hown.form
  injection hv with hvA hvL hvC
  subst hvC
  clear hvL hvA
  unfold maxLen at hcm
  have hlen := hown.1
  have e1 : xs.take (i * 3) ++ xs.drop ((i + 1) * 3) = (xs.take (i * 3) ++ xs.drop ((i + 1) * 3) ++ xs.drop ((m + 1 - 1) * 3)).take (m * 3) :=
    (List.take_left' (by rw [List.length_append, List.length_take, List.length_drop, hlen]; omega)).symm
  have hfin : ∀ w1, Own w1 B 74 3 (.slice (some ⟨g, o, none⟩) (m + 1) c) (m + 1) (xs.take (i * 3) ++ xs.drop ((i + 1) * 3) ++ xs.drop ((m + 1 - 1) * 3)) → w.grownBy w1 (some g) →
      ∃ w9, (∀ ty c', (Builtin.clear_ #[68] ty #[.slice (some ⟨g, o + m * 3, none⟩) 1 c']).run Try.prog w1 = .ok (.tuple #[]) w9) ∧ Own w9 B 74 3 (.slice (some ⟨g, o, none⟩) m c) m (xs.take (i * 3) ++ xs.drop ((i + 1) * 3)) ∧ w.grownBy w9 (some g) := fun w1 h1 h2 => by
    obtain ⟨w9, hr9, ho9, hg9⟩ := h1.clear (P := Try.prog) (i := m) 68 i0 (.agg #[.string .empty, .int .i64 0, .int .i64 0]) 3 Try.underlying68 ei ez rfl (by kernel_rfl) (by decide) (by omega)
    rw [show m + 1 - m = 1 by omega] at hr9
    rw [← e1] at ho9
    exact ⟨w9, hr9, ho9, h2.trans hg9⟩
  have HF := Lib.hid hfin
  have hne : ((i : Int) == (i : Int) + 1) = false := beq_eq_false_iff_ne.2 (by omega)
  have hi' : (i : Int) ≤ (m : Int) := by omega
  have hm' : (m : Int) ≤ 1000000 := by omega
  have hmc' : (m : Int) + 1 ≤ (c : Int) := by omega
  have hcm' : ¬ c = m := by omega
  have hgd : ∀ nq, w.grownBy (w.drewN nq) (some g) := fun nq => (grownBy_refl w _).drawnN nq
  by_cases hc : c = i + 1
  · have him : m = i := by omega
    have hsh : ∀ nq, ∃ w1, (∀ ty c', (Builtin.append_ #[68, 68] ty #[.slice (some ⟨g, o, none⟩) i c, .slice (some ⟨g, o, none⟩) 0 c']).run Try.prog (w.drewN nq) = .ok (.slice (some ⟨g, o, none⟩) m c) w1) ∧
        Own w1 B 74 3 (.slice (some ⟨g, o, none⟩) (m + 1) c) (m + 1) (xs.take (i * 3) ++ xs.drop ((i + 1) * 3) ++ xs.drop ((m + 1 - 1) * 3)) ∧ w.grownBy w1 (some g) := fun nq => by
      obtain ⟨w1, hr1, ho1, hg1⟩ := (hown.drewN nq).shift (P := Try.prog) 68 i0 Try.underlying68 ei ez1 hx1 (show i < m + 1 by omega) ⟨g, o, none⟩ (fun j u hj => by
        rw [List.drop_of_length_le (by rw [hlen, him]; exact Nat.le_refl _)] at hj; simp at hj)
      rw [show m + 1 - (i + 1) = 0 by omega, show m + 1 - 1 = m by omega] at hr1
      exact ⟨w1, hr1, ho1, (hgd nq).trans hg1⟩
    have HSH := Lib.hid hsh
    subst him
    subst hc
    clear hown hx1 hfin hsh hgd e1 hlen ei ez ez1 ez2
    go_enter Try.func142, Try.ntmps142
    go_wp2_with fail
    refine wp_mid_k 6 _ rfl rfl (by kernel_rfl) (by kernel_rfl) ?_
    simp only [List.take_succ_cons, List.take_zero, List.drop_succ_cons, List.drop_zero]
    repeat (go_big_quiet_step (fail))
    refine wpQuiet_nil ?_
    intro _ hw'
    obtain ⟨nq, hw''⟩ := hw'
    subst hw''
    intro K hK
    obtain ⟨w1, hr1, ho1, hg1⟩ := HSH.out nq
    refine wp_append_z _ (.tmp 22) (.tmp 25) _ _ rfl _ _ rfl rfl (hr1 _ _) ?_
    refine hK _ _ ?_
    go_frame
    repeat (go_big_quiet_step (fail))
    refine wpQuiet_nil ?_
    intro _ hw'
    obtain ⟨nq2, hw''⟩ := hw'
    subst hw''
    clear hK
    obtain ⟨w9, hr9, ho9, hg9⟩ := HF.out (w1.drewN nq2) (ho1.drewN nq2) (hg1.drawnN nq2)
    clear hr1 ho1 hg1
    go_wp2_with (at_builtin; refine wpList_clear_q _ rfl (.tmp 31) _ rfl _ rfl (hr9 _ _) ?_)
    go_ret
    exact ⟨_, rfl, ho9, hg9, rfl⟩
  · have hsh : ∀ nq, ∃ w1, (∀ ty c', (Builtin.append_ #[68, 68] ty #[.slice (some ⟨g, o, none⟩) i c, .slice (some ⟨g, o + (i + 1) * 3, none⟩) (m - i) c']).run Try.prog (w.drewN nq) = .ok (.slice (some ⟨g, o, none⟩) m c) w1) ∧
        Own w1 B 74 3 (.slice (some ⟨g, o, none⟩) (m + 1) c) (m + 1) (xs.take (i * 3) ++ xs.drop ((i + 1) * 3) ++ xs.drop ((m + 1 - 1) * 3)) ∧ w.grownBy w1 (some g) := fun nq => by
      obtain ⟨w1, hr1, ho1, hg1⟩ := (hown.drewN nq).shift (P := Try.prog) 68 i0 Try.underlying68 ei ez1 hx1 (show i < m + 1 by omega) ⟨g, o + (i + 1) * 3, none⟩ (fun j u hj => by
        rw [addr_add, Nat.add_assoc]
        rw [List.getElem?_drop] at hj
        exact (hown.drewN nq).cell rfl hj)
      rw [show m + 1 - (i + 1) = m - i by omega, show m + 1 - 1 = m by omega] at hr1
      exact ⟨w1, hr1, ho1, (hgd nq).trans hg1⟩
    have HSH := Lib.hid hsh
    clear hown hx1 hfin hsh hgd e1 hlen ei ez ez1 ez2
    go_enter Try.func142, Try.ntmps142
    go_wp2_with fail
    refine wp_mid_k 6 _ rfl rfl (by kernel_rfl) (by kernel_rfl) ?_
    simp only [List.take_succ_cons, List.take_zero, List.drop_succ_cons, List.drop_zero]
    repeat (go_big_quiet_step (fail))
    refine wpQuiet_nil ?_
    intro _ hw'
    obtain ⟨nq, hw''⟩ := hw'
    subst hw''
    intro K hK
    obtain ⟨w1, hr1, ho1, hg1⟩ := HSH.out nq
    refine wp_append_z _ (.tmp 22) (.tmp 25) _ _ rfl _ _ rfl rfl (hr1 _ _) ?_
    refine hK _ _ ?_
    go_frame
    repeat (go_big_quiet_step (fail))
    refine wpQuiet_nil ?_
    intro _ hw'
    obtain ⟨nq2, hw''⟩ := hw'
    subst hw''
    clear hK
    obtain ⟨w9, hr9, ho9, hg9⟩ := HF.out (w1.drewN nq2) (ho1.drewN nq2) (hg1.drawnN nq2)
    clear hr1 ho1 hg1
    go_wp2_with (at_builtin; refine wpList_clear_q _ rfl (.tmp 31) _ rfl _ rfl (hr9 _ _) ?_)
    go_ret
    exact ⟨_, rfl, ho9, hg9, rfl⟩
set_option maxRecDepth 100000 in
set_option maxHeartbeats 8000000 in
theorem del1_prps (w : World) (B : Nat) (v : Value) (m : Nat) (xs : List Value) (hown : Own w B 48 4 v (m + 1) xs) (i : Nat) (hi : i ≤ m) (hx1 : ∀ u ∈ xs, u.oneCell' = true) (hm : m ≤ 1000000) :
    Calls Try.prog 140 #[v, .int .i64 i, .int .i64 ((i : Int) + 1)] w fun e w' => ∃ u, e = .returned u ∧ Own w' B 48 4 u m (xs.take (i * 4) ++ xs.drop ((i + 1) * 4)) ∧ w.grownBy w' v.ownBlock ∧ u.ownBlock = v.ownBlock := by
  obtain ⟨i0, ei, ez, ez1, ez2⟩ := info_parts clone_prps_info
  obtain ⟨g, o, c, rfl, hBg, hgl⟩ := hown.addr (by omega)
  obtain ⟨_, c', hv, hmc, hcm⟩ := hown.form
  injection hv with hvA hvL hvC
  subst hvC
  clear hvL hvA
  unfold maxLen at hcm
  have hlen := hown.1
  have e1 : xs.take (i * 4) ++ xs.drop ((i + 1) * 4) = (xs.take (i * 4) ++ xs.drop ((i + 1) * 4) ++ xs.drop ((m + 1 - 1) * 4)).take (m * 4) :=
    (List.take_left' (by rw [List.length_append, List.length_take, List.length_drop, hlen]; omega)).symm
  have hfin : ∀ w1, Own w1 B 48 4 (.slice (some ⟨g, o, none⟩) (m + 1) c) (m + 1) (xs.take (i * 4) ++ xs.drop ((i + 1) * 4) ++ xs.drop ((m + 1 - 1) * 4)) → w.grownBy w1 (some g) →
      ∃ w9, (∀ ty c', (Builtin.clear_ #[50] ty #[.slice (some ⟨g, o + m * 4, none⟩) 1 c']).run Try.prog w1 = .ok (.tuple #[]) w9) ∧ Own w9 B 48 4 (.slice (some ⟨g, o, none⟩) m c) m (xs.take (i * 4) ++ xs.drop ((i + 1) * 4)) ∧ w.grownBy w9 (some g) := fun w1 h1 h2 => by
    obtain ⟨w9, hr9, ho9, hg9⟩ := h1.clear (P := Try.prog) (i := m) 50 i0 (.agg #[.string .empty, .int .i64 0, .int .i64 0, .string .empty]) 4 Try.underlying50 ei ez rfl (by kernel_rfl) (by decide) (by omega)
    rw [show m + 1 - m = 1 by omega] at hr9
    rw [← e1] at ho9
    exact ⟨w9, hr9, ho9, h2.trans hg9⟩
  have HF := Lib.hid hfin
  have hne : ((i : Int) == (i : Int) + 1) = false := beq_eq_false_iff_ne.2 (by omega)
  have hi' : (i : Int) ≤ (m : Int) := by omega
  have hm' : (m : Int) ≤ 1000000 := by omega
  have hmc' : (m : Int) + 1 ≤ (c : Int) := by omega
  have hcm' : ¬ c = m := by omega
  have hgd : ∀ nq, w.grownBy (w.drewN nq) (some g) := fun nq => (grownBy_refl w _).drawnN nq
  by_cases hc : c = i + 1
  · have him : m = i := by omega
    have hsh : ∀ nq, ∃ w1, (∀ ty c', (Builtin.append_ #[50, 50] ty #[.slice (some ⟨g, o, none⟩) i c, .slice (some ⟨g, o, none⟩) 0 c']).run Try.prog (w.drewN nq) = .ok (.slice (some ⟨g, o, none⟩) m c) w1) ∧
        Own w1 B 48 4 (.slice (some ⟨g, o, none⟩) (m + 1) c) (m + 1) (xs.take (i * 4) ++ xs.drop ((i + 1) * 4) ++ xs.drop ((m + 1 - 1) * 4)) ∧ w.grownBy w1 (some g) := fun nq => by
      obtain ⟨w1, hr1, ho1, hg1⟩ := (hown.drewN nq).shift (P := Try.prog) 50 i0 Try.underlying50 ei ez1 hx1 (show i < m + 1 by omega) ⟨g, o, none⟩ (fun j u hj => by
        rw [List.drop_of_length_le (by rw [hlen, him]; exact Nat.le_refl _)] at hj; simp at hj)
      rw [show m + 1 - (i + 1) = 0 by omega, show m + 1 - 1 = m by omega] at hr1
      exact ⟨w1, hr1, ho1, (hgd nq).trans hg1⟩
    have HSH := Lib.hid hsh
    subst him
    subst hc
    clear hown hx1 hfin hsh hgd e1 hlen ei ez ez1 ez2
    go_enter Try.func140, Try.ntmps140
    go_wp2_with fail
    refine wp_mid_k 6 _ rfl rfl (by kernel_rfl) (by kernel_rfl) ?_
    simp only [List.take_succ_cons, List.take_zero, List.drop_succ_cons, List.drop_zero]
    repeat (go_big_quiet_step (fail))
    refine wpQuiet_nil ?_
    intro _ hw'
    obtain ⟨nq, hw''⟩ := hw'
    subst hw''
    intro K hK
    obtain ⟨w1, hr1, ho1, hg1⟩ := HSH.out nq
    refine wp_append_z _ (.tmp 22) (.tmp 25) _ _ rfl _ _ rfl rfl (hr1 _ _) ?_
    refine hK _ _ ?_
    go_frame
    repeat (go_big_quiet_step (fail))
    refine wpQuiet_nil ?_
    intro _ hw'
    obtain ⟨nq2, hw''⟩ := hw'
    subst hw''
    clear hK
    obtain ⟨w9, hr9, ho9, hg9⟩ := HF.out (w1.drewN nq2) (ho1.drewN nq2) (hg1.drawnN nq2)
    clear hr1 ho1 hg1
    go_wp2_with (at_builtin; refine wpList_clear_q _ rfl (.tmp 31) _ rfl _ rfl (hr9 _ _) ?_)
    go_ret
    exact ⟨_, rfl, ho9, hg9, rfl⟩
  · have hsh : ∀ nq, ∃ w1, (∀ ty c', (Builtin.append_ #[50, 50] ty #[.slice (some ⟨g, o, none⟩) i c, .slice (some ⟨g, o + (i + 1) * 4, none⟩) (m - i) c']).run Try.prog (w.drewN nq) = .ok (.slice (some ⟨g, o, none⟩) m c) w1) ∧
        Own w1 B 48 4 (.slice (some ⟨g, o, none⟩) (m + 1) c) (m + 1) (xs.take (i * 4) ++ xs.drop ((i + 1) * 4) ++ xs.drop ((m + 1 - 1) * 4)) ∧ w.grownBy w1 (some g) := fun nq => by
      obtain ⟨w1, hr1, ho1, hg1⟩ := (hown.drewN nq).shift (P := Try.prog) 50 i0 Try.underlying50 ei ez1 hx1 (show i < m + 1 by omega) ⟨g, o + (i + 1) * 4, none⟩ (fun j u hj => by
        rw [addr_add, Nat.add_assoc]
        rw [List.getElem?_drop] at hj
        exact (hown.drewN nq).cell rfl hj)
      rw [show m + 1 - (i + 1) = m - i by omega, show m + 1 - 1 = m by omega] at hr1
      exact ⟨w1, hr1, ho1, (hgd nq).trans hg1⟩
    have HSH := Lib.hid hsh
    clear hown hx1 hfin hsh hgd e1 hlen ei ez ez1 ez2
    go_enter Try.func140, Try.ntmps140
    go_wp2_with fail
    refine wp_mid_k 6 _ rfl rfl (by kernel_rfl) (by kernel_rfl) ?_
    simp only [List.take_succ_cons, List.take_zero, List.drop_succ_cons, List.drop_zero]
    repeat (go_big_quiet_step (fail))
    refine wpQuiet_nil ?_
    intro _ hw'
    obtain ⟨nq, hw''⟩ := hw'
    subst hw''
    intro K hK
    obtain ⟨w1, hr1, ho1, hg1⟩ := HSH.out nq
    refine wp_append_z _ (.tmp 22) (.tmp 25) _ _ rfl _ _ rfl rfl (hr1 _ _) ?_
    refine hK _ _ ?_
    go_frame
    repeat (go_big_quiet_step (fail))
    refine wpQuiet_nil ?_
    intro _ hw'
    obtain ⟨nq2, hw''⟩ := hw'
    subst hw''
    clear hK
    obtain ⟨w9, hr9, ho9, hg9⟩ := HF.out (w1.drewN nq2) (ho1.drewN nq2) (hg1.drawnN nq2)
    clear hr1 ho1 hg1
    go_wp2_with (at_builtin; refine wpList_clear_q _ rfl (.tmp 31) _ rfl _ rfl (hr9 _ _) ?_)
    go_ret
    exact ⟨_, rfl, ho9, hg9, rfl⟩
end Go.Proofs.Ytldonhgcifhpgaa

/- Contracts: slices.Delete of one field, of one kind, of one bond. -/
namespace Go.Proofs.Ytldonhgcifhpgaa
open Go Go.RowKit



set_option maxRecDepth 100000 in
set_option maxHeartbeats 8000000 in
theorem del1_flds (w : World) (B : Nat) (v : Value) (m : Nat) (xs : List Value) (hown : Own w B 33 4 v (m + 1) xs) (i : Nat) (hi : i ≤ m) (hx1 : ∀ u ∈ xs, u.oneCell' = true) (hm : m ≤ 1000000) :
    Calls Try.prog 121 #[v, .int .i64 i, .int .i64 ((i : Int) + 1)] w fun e w' => ∃ u, e = .returned u ∧ Own w' B 33 4 u m (xs.take (i * 4) ++ xs.drop ((i + 1) * 4)) ∧ w.grownBy w' v.ownBlock ∧ u.ownBlock = v.ownBlock := by
  obtain ⟨i0, ei, ez, ez1, ez2⟩ := info_parts clone_flds_info
  obtain ⟨g, o, c, rfl, hBg, hgl⟩ := hown.addr (by omega)
  obtain ⟨_, c', hv, hmc, hcm⟩ := hown.form
  injection hv with hvA hvL hvC
  subst hvC
  clear hvL hvA
  unfold maxLen at hcm
  have hlen := hown.1
  have e1 : xs.take (i * 4) ++ xs.drop ((i + 1) * 4) = (xs.take (i * 4) ++ xs.drop ((i + 1) * 4) ++ xs.drop ((m + 1 - 1) * 4)).take (m * 4) :=
    (List.take_left' (by rw [List.length_append, List.length_take, List.length_drop, hlen]; omega)).symm
  have hfin : ∀ w1, Own w1 B 33 4 (.slice (some ⟨g, o, none⟩) (m + 1) c) (m + 1) (xs.take (i * 4) ++ xs.drop ((i + 1) * 4) ++ xs.drop ((m + 1 - 1) * 4)) → w.grownBy w1 (some g) →
      ∃ w9, (∀ ty c', (Builtin.clear_ #[27] ty #[.slice (some ⟨g, o + m * 4, none⟩) 1 c']).run Try.prog w1 = .ok (.tuple #[]) w9) ∧ Own w9 B 33 4 (.slice (some ⟨g, o, none⟩) m c) m (xs.take (i * 4) ++ xs.drop ((i + 1) * 4)) ∧ w.grownBy w9 (some g) := fun w1 h1 h2 => by
    obtain ⟨w9, hr9, ho9, hg9⟩ := h1.clear (P := Try.prog) (i := m) 27 i0 (.agg #[.string .empty, .int .i64 0, .bool false, .bool false]) 4 Try.underlying27 ei ez rfl (by kernel_rfl) (by decide) (by omega)
    rw [show m + 1 - m = 1 by omega] at hr9
    rw [← e1] at ho9
    exact ⟨w9, hr9, ho9, h2.trans hg9⟩
  have HF := Lib.hid hfin
  have hne : ((i : Int) == (i : Int) + 1) = false := beq_eq_false_iff_ne.2 (by omega)
  have hi' : (i : Int) ≤ (m : Int) := by omega
  have hm' : (m : Int) ≤ 1000000 := by omega
  have hmc' : (m : Int) + 1 ≤ (c : Int) := by omega
  have hcm' : ¬ c = m := by omega
  have hgd : ∀ nq, w.grownBy (w.drewN nq) (some g) := fun nq => (grownBy_refl w _).drawnN nq
  by_cases hc : c = i + 1
  · have him : m = i := by omega
    have hsh : ∀ nq, ∃ w1, (∀ ty c', (Builtin.append_ #[27, 27] ty #[.slice (some ⟨g, o, none⟩) i c, .slice (some ⟨g, o, none⟩) 0 c']).run Try.prog (w.drewN nq) = .ok (.slice (some ⟨g, o, none⟩) m c) w1) ∧
        Own w1 B 33 4 (.slice (some ⟨g, o, none⟩) (m + 1) c) (m + 1) (xs.take (i * 4) ++ xs.drop ((i + 1) * 4) ++ xs.drop ((m + 1 - 1) * 4)) ∧ w.grownBy w1 (some g) := fun nq => by
      obtain ⟨w1, hr1, ho1, hg1⟩ := (hown.drewN nq).shift (P := Try.prog) 27 i0 Try.underlying27 ei ez1 hx1 (show i < m + 1 by omega) ⟨g, o, none⟩ (fun j u hj => by
        rw [List.drop_of_length_le (by rw [hlen, him]; exact Nat.le_refl _)] at hj; simp at hj)
      rw [show m + 1 - (i + 1) = 0 by omega, show m + 1 - 1 = m by omega] at hr1
      exact ⟨w1, hr1, ho1, (hgd nq).trans hg1⟩
    have HSH := Lib.hid hsh
    subst him
    subst hc
    clear hown hx1 hfin hsh hgd e1 hlen ei ez ez1 ez2
    go_enter Try.func121, Try.ntmps121
    go_wp2_with fail
    refine wp_mid_k 6 _ rfl rfl (by kernel_rfl) (by kernel_rfl) ?_
    simp only [List.take_succ_cons, List.take_zero, List.drop_succ_cons, List.drop_zero]
    repeat (go_big_quiet_step (fail))
    refine wpQuiet_nil ?_
    intro _ hw'
    obtain ⟨nq, hw''⟩ := hw'
    subst hw''
    intro K hK
    obtain ⟨w1, hr1, ho1, hg1⟩ := HSH.out nq
    refine wp_append_z _ (.tmp 22) (.tmp 25) _ _ rfl _ _ rfl rfl (hr1 _ _) ?_
    refine hK _ _ ?_
    go_frame
    repeat (go_big_quiet_step (fail))
    refine wpQuiet_nil ?_
    intro _ hw'
    obtain ⟨nq2, hw''⟩ := hw'
    subst hw''
    clear hK
    obtain ⟨w9, hr9, ho9, hg9⟩ := HF.out (w1.drewN nq2) (ho1.drewN nq2) (hg1.drawnN nq2)
    clear hr1 ho1 hg1
    go_wp2_with (at_builtin; refine wpList_clear_q _ rfl (.tmp 31) _ rfl _ rfl (hr9 _ _) ?_)
    go_ret
    exact ⟨_, rfl, ho9, hg9, rfl⟩
  · have hsh : ∀ nq, ∃ w1, (∀ ty c', (Builtin.append_ #[27, 27] ty #[.slice (some ⟨g, o, none⟩) i c, .slice (some ⟨g, o + (i + 1) * 4, none⟩) (m - i) c']).run Try.prog (w.drewN nq) = .ok (.slice (some ⟨g, o, none⟩) m c) w1) ∧
        Own w1 B 33 4 (.slice (some ⟨g, o, none⟩) (m + 1) c) (m + 1) (xs.take (i * 4) ++ xs.drop ((i + 1) * 4) ++ xs.drop ((m + 1 - 1) * 4)) ∧ w.grownBy w1 (some g) := fun nq => by
      obtain ⟨w1, hr1, ho1, hg1⟩ := (hown.drewN nq).shift (P := Try.prog) 27 i0 Try.underlying27 ei ez1 hx1 (show i < m + 1 by omega) ⟨g, o + (i + 1) * 4, none⟩ (fun j u hj => by
        rw [addr_add, Nat.add_assoc]
        rw [List.getElem?_drop] at hj
        exact (hown.drewN nq).cell rfl hj)
      rw [show m + 1 - (i + 1) = m - i by omega, show m + 1 - 1 = m by omega] at hr1
      exact ⟨w1, hr1, ho1, (hgd nq).trans hg1⟩
    have HSH := Lib.hid hsh
    clear hown hx1 hfin hsh hgd e1 hlen ei ez ez1 ez2
    go_enter Try.func121, Try.ntmps121
    go_wp2_with fail
    refine wp_mid_k 6 _ rfl rfl (by kernel_rfl) (by kernel_rfl) ?_
    simp only [List.take_succ_cons, List.take_zero, List.drop_succ_cons, List.drop_zero]
    repeat (go_big_quiet_step (fail))
    refine wpQuiet_nil ?_
    intro _ hw'
    obtain ⟨nq, hw''⟩ := hw'
    subst hw''
    intro K hK
    obtain ⟨w1, hr1, ho1, hg1⟩ := HSH.out nq
    refine wp_append_z _ (.tmp 22) (.tmp 25) _ _ rfl _ _ rfl rfl (hr1 _ _) ?_
    refine hK _ _ ?_
    go_frame
    repeat (go_big_quiet_step (fail))
    refine wpQuiet_nil ?_
    intro _ hw'
    obtain ⟨nq2, hw''⟩ := hw'
    subst hw''
    clear hK
    obtain ⟨w9, hr9, ho9, hg9⟩ := HF.out (w1.drewN nq2) (ho1.drewN nq2) (hg1.drawnN nq2)
    clear hr1 ho1 hg1
    go_wp2_with (at_builtin; refine wpList_clear_q _ rfl (.tmp 31) _ rfl _ rfl (hr9 _ _) ?_)
    go_ret
    exact ⟨_, rfl, ho9, hg9, rfl⟩
set_option maxRecDepth 100000 in
set_option maxHeartbeats 8000000 in
theorem del1_knds (w : World) (B : Nat) (v : Value) (m : Nat) (xs : List Value) (hown : Own w B 29 3 v (m + 1) xs) (i : Nat) (hi : i ≤ m) (hx1 : ∀ u ∈ xs, u.oneCell' = true) (hm : m ≤ 1000000) :
    Calls Try.prog 117 #[v, .int .i64 i, .int .i64 ((i : Int) + 1)] w fun e w' => ∃ u, e = .returned u ∧ Own w' B 29 3 u m (xs.take (i * 3) ++ xs.drop ((i + 1) * 3)) ∧ w.grownBy w' v.ownBlock ∧ u.ownBlock = v.ownBlock := by
  obtain ⟨i0, ei, ez, ez1, ez2⟩ := info_parts clonec_knds_info
  obtain ⟨g, o, c, rfl, hBg, hgl⟩ := hown.addr (by omega)
  obtain ⟨_, c', hv, hmc, hcm⟩ := hown.form
  injection hv with hvA hvL hvC
  subst hvC
  clear hvL hvA
  unfold maxLen at hcm
  have hlen := hown.1
  have e1 : xs.take (i * 3) ++ xs.drop ((i + 1) * 3) = (xs.take (i * 3) ++ xs.drop ((i + 1) * 3) ++ xs.drop ((m + 1 - 1) * 3)).take (m * 3) :=
    (List.take_left' (by rw [List.length_append, List.length_take, List.length_drop, hlen]; omega)).symm
  have hfin : ∀ w1, Own w1 B 29 3 (.slice (some ⟨g, o, none⟩) (m + 1) c) (m + 1) (xs.take (i * 3) ++ xs.drop ((i + 1) * 3) ++ xs.drop ((m + 1 - 1) * 3)) → w.grownBy w1 (some g) →
      ∃ w9, (∀ ty c', (Builtin.clear_ #[22] ty #[.slice (some ⟨g, o + m * 3, none⟩) 1 c']).run Try.prog w1 = .ok (.tuple #[]) w9) ∧ Own w9 B 29 3 (.slice (some ⟨g, o, none⟩) m c) m (xs.take (i * 3) ++ xs.drop ((i + 1) * 3)) ∧ w.grownBy w9 (some g) := fun w1 h1 h2 => by
    obtain ⟨w9, hr9, ho9, hg9⟩ := h1.clear (P := Try.prog) (i := m) 22 i0 (.agg #[.string .empty, .slice none 0 0, .slice none 0 0]) 3 Try.underlying22 ei ez rfl (by kernel_rfl) (by decide) (by omega)
    rw [show m + 1 - m = 1 by omega] at hr9
    rw [← e1] at ho9
    exact ⟨w9, hr9, ho9, h2.trans hg9⟩
  have HF := Lib.hid hfin
  have hne : ((i : Int) == (i : Int) + 1) = false := beq_eq_false_iff_ne.2 (by omega)
  have hi' : (i : Int) ≤ (m : Int) := by omega
  have hm' : (m : Int) ≤ 1000000 := by omega
  have hmc' : (m : Int) + 1 ≤ (c : Int) := by omega
  have hcm' : ¬ c = m := by omega
  have hgd : ∀ nq, w.grownBy (w.drewN nq) (some g) := fun nq => (grownBy_refl w _).drawnN nq
  by_cases hc : c = i + 1
  · have him : m = i := by omega
    have hsh : ∀ nq, ∃ w1, (∀ ty c', (Builtin.append_ #[22, 22] ty #[.slice (some ⟨g, o, none⟩) i c, .slice (some ⟨g, o, none⟩) 0 c']).run Try.prog (w.drewN nq) = .ok (.slice (some ⟨g, o, none⟩) m c) w1) ∧
        Own w1 B 29 3 (.slice (some ⟨g, o, none⟩) (m + 1) c) (m + 1) (xs.take (i * 3) ++ xs.drop ((i + 1) * 3) ++ xs.drop ((m + 1 - 1) * 3)) ∧ w.grownBy w1 (some g) := fun nq => by
      obtain ⟨w1, hr1, ho1, hg1⟩ := (hown.drewN nq).shift (P := Try.prog) 22 i0 Try.underlying22 ei ez1 hx1 (show i < m + 1 by omega) ⟨g, o, none⟩ (fun j u hj => by
        rw [List.drop_of_length_le (by rw [hlen, him]; exact Nat.le_refl _)] at hj; simp at hj)
      rw [show m + 1 - (i + 1) = 0 by omega, show m + 1 - 1 = m by omega] at hr1
      exact ⟨w1, hr1, ho1, (hgd nq).trans hg1⟩
    have HSH := Lib.hid hsh
    subst him
    subst hc
    clear hown hx1 hfin hsh hgd e1 hlen ei ez ez1 ez2
    go_enter Try.func117, Try.ntmps117
    go_wp2_with fail
    refine wp_mid_k 6 _ rfl rfl (by kernel_rfl) (by kernel_rfl) ?_
    simp only [List.take_succ_cons, List.take_zero, List.drop_succ_cons, List.drop_zero]
    repeat (go_big_quiet_step (fail))
    refine wpQuiet_nil ?_
    intro _ hw'
    obtain ⟨nq, hw''⟩ := hw'
    subst hw''
    intro K hK
    obtain ⟨w1, hr1, ho1, hg1⟩ := HSH.out nq
    refine wp_append_z _ (.tmp 22) (.tmp 25) _ _ rfl _ _ rfl rfl (hr1 _ _) ?_
    refine hK _ _ ?_
    go_frame
    repeat (go_big_quiet_step (fail))
    refine wpQuiet_nil ?_
    intro _ hw'
    obtain ⟨nq2, hw''⟩ := hw'
    subst hw''
    clear hK
    obtain ⟨w9, hr9, ho9, hg9⟩ := HF.out (w1.drewN nq2) (ho1.drewN nq2) (hg1.drawnN nq2)
    clear hr1 ho1 hg1
    go_wp2_with (at_builtin; refine wpList_clear_q _ rfl (.tmp 31) _ rfl _ rfl (hr9 _ _) ?_)
    go_ret
    exact ⟨_, rfl, ho9, hg9, rfl⟩
  · have hsh : ∀ nq, ∃ w1, (∀ ty c', (Builtin.append_ #[22, 22] ty #[.slice (some ⟨g, o, none⟩) i c, .slice (some ⟨g, o + (i + 1) * 3, none⟩) (m - i) c']).run Try.prog (w.drewN nq) = .ok (.slice (some ⟨g, o, none⟩) m c) w1) ∧
        Own w1 B 29 3 (.slice (some ⟨g, o, none⟩) (m + 1) c) (m + 1) (xs.take (i * 3) ++ xs.drop ((i + 1) * 3) ++ xs.drop ((m + 1 - 1) * 3)) ∧ w.grownBy w1 (some g) := fun nq => by
      obtain ⟨w1, hr1, ho1, hg1⟩ := (hown.drewN nq).shift (P := Try.prog) 22 i0 Try.underlying22 ei ez1 hx1 (show i < m + 1 by omega) ⟨g, o + (i + 1) * 3, none⟩ (fun j u hj => by
        rw [addr_add, Nat.add_assoc]
        rw [List.getElem?_drop] at hj
        exact (hown.drewN nq).cell rfl hj)
      rw [show m + 1 - (i + 1) = m - i by omega, show m + 1 - 1 = m by omega] at hr1
      exact ⟨w1, hr1, ho1, (hgd nq).trans hg1⟩
    have HSH := Lib.hid hsh
    clear hown hx1 hfin hsh hgd e1 hlen ei ez ez1 ez2
    go_enter Try.func117, Try.ntmps117
    go_wp2_with fail
    refine wp_mid_k 6 _ rfl rfl (by kernel_rfl) (by kernel_rfl) ?_
    simp only [List.take_succ_cons, List.take_zero, List.drop_succ_cons, List.drop_zero]
    repeat (go_big_quiet_step (fail))
    refine wpQuiet_nil ?_
    intro _ hw'
    obtain ⟨nq, hw''⟩ := hw'
    subst hw''
    intro K hK
    obtain ⟨w1, hr1, ho1, hg1⟩ := HSH.out nq
    refine wp_append_z _ (.tmp 22) (.tmp 25) _ _ rfl _ _ rfl rfl (hr1 _ _) ?_
    refine hK _ _ ?_
    go_frame
    repeat (go_big_quiet_step (fail))
    refine wpQuiet_nil ?_
    intro _ hw'
    obtain ⟨nq2, hw''⟩ := hw'
    subst hw''
    clear hK
    obtain ⟨w9, hr9, ho9, hg9⟩ := HF.out (w1.drewN nq2) (ho1.drewN nq2) (hg1.drawnN nq2)
    clear hr1 ho1 hg1
    go_wp2_with (at_builtin; refine wpList_clear_q _ rfl (.tmp 31) _ rfl _ rfl (hr9 _ _) ?_)
    go_ret
    exact ⟨_, rfl, ho9, hg9, rfl⟩
set_option maxRecDepth 100000 in
set_option maxHeartbeats 8000000 in
theorem del1_bnds (w : World) (B : Nat) (v : Value) (m : Nat) (xs : List Value) (hown : Own w B 31 5 v (m + 1) xs) (i : Nat) (hi : i ≤ m) (hx1 : ∀ u ∈ xs, u.oneCell' = true) (hm : m ≤ 1000000) :
    Calls Try.prog 122 #[v, .int .i64 i, .int .i64 ((i : Int) + 1)] w fun e w' => ∃ u, e = .returned u ∧ Own w' B 31 5 u m (xs.take (i * 5) ++ xs.drop ((i + 1) * 5)) ∧ w.grownBy w' v.ownBlock ∧ u.ownBlock = v.ownBlock := by
  obtain ⟨i0, ei, ez, ez1, ez2⟩ := info_parts clone_bnds_info
  obtain ⟨g, o, c, rfl, hBg, hgl⟩ := hown.addr (by omega)
  obtain ⟨_, c', hv, hmc, hcm⟩ := hown.form
  injection hv with hvA hvL hvC
  subst hvC
  clear hvL hvA
  unfold maxLen at hcm
  have hlen := hown.1
  have e1 : xs.take (i * 5) ++ xs.drop ((i + 1) * 5) = (xs.take (i * 5) ++ xs.drop ((i + 1) * 5) ++ xs.drop ((m + 1 - 1) * 5)).take (m * 5) :=
    (List.take_left' (by rw [List.length_append, List.length_take, List.length_drop, hlen]; omega)).symm
  have hfin : ∀ w1, Own w1 B 31 5 (.slice (some ⟨g, o, none⟩) (m + 1) c) (m + 1) (xs.take (i * 5) ++ xs.drop ((i + 1) * 5) ++ xs.drop ((m + 1 - 1) * 5)) → w.grownBy w1 (some g) →
      ∃ w9, (∀ ty c', (Builtin.clear_ #[23] ty #[.slice (some ⟨g, o + m * 5, none⟩) 1 c']).run Try.prog w1 = .ok (.tuple #[]) w9) ∧ Own w9 B 31 5 (.slice (some ⟨g, o, none⟩) m c) m (xs.take (i * 5) ++ xs.drop ((i + 1) * 5)) ∧ w.grownBy w9 (some g) := fun w1 h1 h2 => by
    obtain ⟨w9, hr9, ho9, hg9⟩ := h1.clear (P := Try.prog) (i := m) 23 i0 (.agg #[.string .empty, .string .empty, .string .empty, .int .i64 0, .int .i64 0]) 5 Try.underlying23 ei ez rfl (by kernel_rfl) (by decide) (by omega)
    rw [show m + 1 - m = 1 by omega] at hr9
    rw [← e1] at ho9
    exact ⟨w9, hr9, ho9, h2.trans hg9⟩
  have HF := Lib.hid hfin
  have hne : ((i : Int) == (i : Int) + 1) = false := beq_eq_false_iff_ne.2 (by omega)
  have hi' : (i : Int) ≤ (m : Int) := by omega
  have hm' : (m : Int) ≤ 1000000 := by omega
  have hmc' : (m : Int) + 1 ≤ (c : Int) := by omega
  have hcm' : ¬ c = m := by omega
  have hgd : ∀ nq, w.grownBy (w.drewN nq) (some g) := fun nq => (grownBy_refl w _).drawnN nq
  by_cases hc : c = i + 1
  · have him : m = i := by omega
    have hsh : ∀ nq, ∃ w1, (∀ ty c', (Builtin.append_ #[23, 23] ty #[.slice (some ⟨g, o, none⟩) i c, .slice (some ⟨g, o, none⟩) 0 c']).run Try.prog (w.drewN nq) = .ok (.slice (some ⟨g, o, none⟩) m c) w1) ∧
        Own w1 B 31 5 (.slice (some ⟨g, o, none⟩) (m + 1) c) (m + 1) (xs.take (i * 5) ++ xs.drop ((i + 1) * 5) ++ xs.drop ((m + 1 - 1) * 5)) ∧ w.grownBy w1 (some g) := fun nq => by
      obtain ⟨w1, hr1, ho1, hg1⟩ := (hown.drewN nq).shift (P := Try.prog) 23 i0 Try.underlying23 ei ez1 hx1 (show i < m + 1 by omega) ⟨g, o, none⟩ (fun j u hj => by
        rw [List.drop_of_length_le (by rw [hlen, him]; exact Nat.le_refl _)] at hj; simp at hj)
      rw [show m + 1 - (i + 1) = 0 by omega, show m + 1 - 1 = m by omega] at hr1
      exact ⟨w1, hr1, ho1, (hgd nq).trans hg1⟩
    have HSH := Lib.hid hsh
    subst him
    subst hc
    clear hown hx1 hfin hsh hgd e1 hlen ei ez ez1 ez2
    go_enter Try.func122, Try.ntmps122
    go_wp2_with fail
    refine wp_mid_k 6 _ rfl rfl (by kernel_rfl) (by kernel_rfl) ?_
    simp only [List.take_succ_cons, List.take_zero, List.drop_succ_cons, List.drop_zero]
    repeat (go_big_quiet_step (fail))
    refine wpQuiet_nil ?_
    intro _ hw'
    obtain ⟨nq, hw''⟩ := hw'
    subst hw''
    intro K hK
    obtain ⟨w1, hr1, ho1, hg1⟩ := HSH.out nq
    refine wp_append_z _ (.tmp 22) (.tmp 25) _ _ rfl _ _ rfl rfl (hr1 _ _) ?_
    refine hK _ _ ?_
    go_frame
    repeat (go_big_quiet_step (fail))
    refine wpQuiet_nil ?_
    intro _ hw'
    obtain ⟨nq2, hw''⟩ := hw'
    subst hw''
    clear hK
    obtain ⟨w9, hr9, ho9, hg9⟩ := HF.out (w1.drewN nq2) (ho1.drewN nq2) (hg1.drawnN nq2)
    clear hr1 ho1 hg1
    go_wp2_with (at_builtin; refine wpList_clear_q _ rfl (.tmp 31) _ rfl _ rfl (hr9 _ _) ?_)
    go_ret
    exact ⟨_, rfl, ho9, hg9, rfl⟩
  · have hsh : ∀ nq, ∃ w1, (∀ ty c', (Builtin.append_ #[23, 23] ty #[.slice (some ⟨g, o, none⟩) i c, .slice (some ⟨g, o + (i + 1) * 5, none⟩) (m - i) c']).run Try.prog (w.drewN nq) = .ok (.slice (some ⟨g, o, none⟩) m c) w1) ∧
        Own w1 B 31 5 (.slice (some ⟨g, o, none⟩) (m + 1) c) (m + 1) (xs.take (i * 5) ++ xs.drop ((i + 1) * 5) ++ xs.drop ((m + 1 - 1) * 5)) ∧ w.grownBy w1 (some g) := fun nq => by
      obtain ⟨w1, hr1, ho1, hg1⟩ := (hown.drewN nq).shift (P := Try.prog) 23 i0 Try.underlying23 ei ez1 hx1 (show i < m + 1 by omega) ⟨g, o + (i + 1) * 5, none⟩ (fun j u hj => by
        rw [addr_add, Nat.add_assoc]
        rw [List.getElem?_drop] at hj
        exact (hown.drewN nq).cell rfl hj)
      rw [show m + 1 - (i + 1) = m - i by omega, show m + 1 - 1 = m by omega] at hr1
      exact ⟨w1, hr1, ho1, (hgd nq).trans hg1⟩
    have HSH := Lib.hid hsh
    clear hown hx1 hfin hsh hgd e1 hlen ei ez ez1 ez2
    go_enter Try.func122, Try.ntmps122
    go_wp2_with fail
    refine wp_mid_k 6 _ rfl rfl (by kernel_rfl) (by kernel_rfl) ?_
    simp only [List.take_succ_cons, List.take_zero, List.drop_succ_cons, List.drop_zero]
    repeat (go_big_quiet_step (fail))
    refine wpQuiet_nil ?_
    intro _ hw'
    obtain ⟨nq, hw''⟩ := hw'
    subst hw''
    intro K hK
    obtain ⟨w1, hr1, ho1, hg1⟩ := HSH.out nq
    refine wp_append_z _ (.tmp 22) (.tmp 25) _ _ rfl _ _ rfl rfl (hr1 _ _) ?_
    refine hK _ _ ?_
    go_frame
    repeat (go_big_quiet_step (fail))
    refine wpQuiet_nil ?_
    intro _ hw'
    obtain ⟨nq2, hw''⟩ := hw'
    subst hw''
    clear hK
    obtain ⟨w9, hr9, ho9, hg9⟩ := HF.out (w1.drewN nq2) (ho1.drewN nq2) (hg1.drawnN nq2)
    clear hr1 ho1 hg1
    go_wp2_with (at_builtin; refine wpList_clear_q _ rfl (.tmp 31) _ rfl _ rfl (hr9 _ _) ?_)
    go_ret
    exact ⟨_, rfl, ho9, hg9, rfl⟩
end Go.Proofs.Ytldonhgcifhpgaa
