/- Parts: DelK, ChC. -/
import Derived.Test.YtldmofffogjlkaaDoorMg16
import Derived.Test.YtldmofffogjlkaaDoorMg15
/- Contracts: slices.Delete of one field, of one kind, of one bond. -/
namespace Go.Proofs.YtldmofffogjlkaaDoor
open Go Go.RowKit



set_option maxRecDepth 100000 in
set_option maxHeartbeats 8000000 in
theorem del1_flds (w : World) (B : Nat) (v : Value) (m : Nat) (xs : List Value) (hown : Own w B 38 4 v (m + 1) xs) (i : Nat) (hi : i ≤ m) (hx1 : ∀ u ∈ xs, u.oneCell' = true) (hm : m ≤ 1000000) :
    Calls Tryd.prog 120 #[v, .int .i64 i, .int .i64 ((i : Int) + 1)] w fun e w' => ∃ u, e = .returned u ∧ Own w' B 38 4 u m (xs.take (i * 4) ++ xs.drop ((i + 1) * 4)) ∧ w.grownBy w' v.ownBlock ∧ u.ownBlock = v.ownBlock := by
  obtain ⟨i0, ei, ez, ez1, ez2⟩ := info_parts clone_flds_info
  obtain ⟨g, o, c, rfl, hBg, hgl⟩ := hown.addr (by omega)
  obtain ⟨_, c', hv, hmc, hcm⟩ := hown.form
  injection hv with hvA hvL hvC
  subst hvC
  clear hvL hvA
  unfold maxLen at hcm
  have hlen := hown.1
  have e1 : xs.take (i * 4) ++ xs.drop ((i + 1) * 4) = (xs.take (i * 4) ++ xs.drop ((i + 1) * 4) ++ xs.drop ((m + 1 - 1) * 4)).take (m * 4) :=
    (List.take_left' (by rw [List.length_append, List.length_take, List.length_drop, hlen]; omega)).symm
  have hfin : ∀ w1, Own w1 B 38 4 (.slice (some ⟨g, o, none⟩) (m + 1) c) (m + 1) (xs.take (i * 4) ++ xs.drop ((i + 1) * 4) ++ xs.drop ((m + 1 - 1) * 4)) → w.grownBy w1 (some g) →
      ∃ w9, (∀ ty c', (Builtin.clear_ #[32] ty #[.slice (some ⟨g, o + m * 4, none⟩) 1 c']).run Tryd.prog w1 = .ok (.tuple #[]) w9) ∧ Own w9 B 38 4 (.slice (some ⟨g, o, none⟩) m c) m (xs.take (i * 4) ++ xs.drop ((i + 1) * 4)) ∧ w.grownBy w9 (some g) := fun w1 h1 h2 => by
    obtain ⟨w9, hr9, ho9, hg9⟩ := h1.clear (P := Tryd.prog) (i := m) 32 i0 (.agg #[.string .empty, .int .i64 0, .bool false, .bool false]) 4 Tryd.underlying32 ei ez rfl (by kernel_rfl) (by decide) (by omega)
    rw [show m + 1 - m = 1 by omega] at hr9
    rw [← e1] at ho9
    exact ⟨w9, hr9, ho9, h2.trans hg9⟩
  have HF := Lib.hid hfin
  have hne : ((i : Int) == (i : Int) + 1) = false := beq_eq_false_iff_ne.2 (by omega)
  have hi' : (i : Int) ≤ (m : Int) := by omega
  have hm' : (m : Int) ≤ 1000000 := by omega
  have hmc' : (m : Int) + 1 ≤ (c : Int) := by omega
  have hcm' : ¬ c = m := by omega
  have hgd : ∀ nq, w.grownBy (w.drewN nq) (some g) := fun nq => (grownBy_refl w _).drawnN nq
  by_cases hc : c = i + 1
  · have him : m = i := by omega
    have hsh : ∀ nq, ∃ w1, (∀ ty c', (Builtin.append_ #[32, 32] ty #[.slice (some ⟨g, o, none⟩) i c, .slice (some ⟨g, o, none⟩) 0 c']).run Tryd.prog (w.drewN nq) = .ok (.slice (some ⟨g, o, none⟩) m c) w1) ∧
        Own w1 B 38 4 (.slice (some ⟨g, o, none⟩) (m + 1) c) (m + 1) (xs.take (i * 4) ++ xs.drop ((i + 1) * 4) ++ xs.drop ((m + 1 - 1) * 4)) ∧ w.grownBy w1 (some g) := fun nq => by
      obtain ⟨w1, hr1, ho1, hg1⟩ := (hown.drewN nq).shift (P := Tryd.prog) 32 i0 Tryd.underlying32 ei ez1 hx1 (show i < m + 1 by omega) ⟨g, o, none⟩ (fun j u hj => by
        rw [List.drop_of_length_le (by rw [hlen, him]; exact Nat.le_refl _)] at hj; simp at hj)
      rw [show m + 1 - (i + 1) = 0 by omega, show m + 1 - 1 = m by omega] at hr1
      exact ⟨w1, hr1, ho1, (hgd nq).trans hg1⟩
    have HSH := Lib.hid hsh
    subst him
    subst hc
    clear hown hx1 hfin hsh hgd e1 hlen ei ez ez1 ez2
    go_enter Tryd.func120, Tryd.ntmps120
    go_wp2_with fail
    refine wp_mid_k 6 _ rfl rfl (by kernel_rfl) (by kernel_rfl) ?_
    simp only [List.take_succ_cons, List.take_zero, List.drop_succ_cons, List.drop_zero]
    repeat (go_big_quiet_step (fail))
    refine wpQuiet_nil ?_
    intro _ hw'
    obtain ⟨nq, hw''⟩ := hw'
    subst hw''
    intro K hK
    obtain ⟨w1, hr1, ho1, hg1⟩ := HSH.out nq
    refine wp_append_z _ (.tmp 22) (.tmp 25) _ _ rfl _ _ rfl rfl (hr1 _ _) ?_
    refine hK _ _ ?_
    go_frame
    repeat (go_big_quiet_step (fail))
    refine wpQuiet_nil ?_
    intro _ hw'
    obtain ⟨nq2, hw''⟩ := hw'
    subst hw''
    clear hK
    obtain ⟨w9, hr9, ho9, hg9⟩ := HF.out (w1.drewN nq2) (ho1.drewN nq2) (hg1.drawnN nq2)
    clear hr1 ho1 hg1
    go_wp2_with (at_builtin; refine wpList_clear_q _ rfl (.tmp 31) _ rfl _ rfl (hr9 _ _) ?_)
    go_ret
    exact ⟨_, rfl, ho9, hg9, rfl⟩
  · have hsh : ∀ nq, ∃ w1, (∀ ty c', (Builtin.append_ #[32, 32] ty #[.slice (some ⟨g, o, none⟩) i c, .slice (some ⟨g, o + (i + 1) * 4, none⟩) (m - i) c']).run Tryd.prog (w.drewN nq) = .ok (.slice (some ⟨g, o, none⟩) m c) w1) ∧
        Own w1 B 38 4 (.slice (some ⟨g, o, none⟩) (m + 1) c) (m + 1) (xs.take (i * 4) ++ xs.drop ((i + 1) * 4) ++ xs.drop ((m + 1 - 1) * 4)) ∧ w.grownBy w1 (some g) := fun nq => by
      obtain ⟨w1, hr1, ho1, hg1⟩ := (hown.drewN nq).shift (P := Tryd.prog) 32 i0 Tryd.underlying32 ei ez1 hx1 (show i < m + 1 by omega) ⟨g, o + (i + 1) * 4, none⟩ (fun j u hj => by
        rw [addr_add, Nat.add_assoc]
        rw [List.getElem?_drop] at hj
        exact (hown.drewN nq).cell rfl hj)
      rw [show m + 1 - (i + 1) = m - i by omega, show m + 1 - 1 = m by omega] at hr1
      exact ⟨w1, hr1, ho1, (hgd nq).trans hg1⟩
    have HSH := Lib.hid hsh
    clear hown hx1 hfin hsh hgd e1 hlen ei ez ez1 ez2
    go_enter Tryd.func120, Tryd.ntmps120
    go_wp2_with fail
    refine wp_mid_k 6 _ rfl rfl (by kernel_rfl) (by kernel_rfl) ?_
    simp only [List.take_succ_cons, List.take_zero, List.drop_succ_cons, List.drop_zero]
    repeat (go_big_quiet_step (fail))
    refine wpQuiet_nil ?_
    intro _ hw'
    obtain ⟨nq, hw''⟩ := hw'
    subst hw''
    intro K hK
    obtain ⟨w1, hr1, ho1, hg1⟩ := HSH.out nq
    refine wp_append_z _ (.tmp 22) (.tmp 25) _ _ rfl _ _ rfl rfl (hr1 _ _) ?_
    refine hK _ _ ?_
    go_frame
    repeat (go_big_quiet_step (fail))
    refine wpQuiet_nil ?_
    intro _ hw'
    obtain ⟨nq2, hw''⟩ := hw'
    subst hw''
    clear hK
    obtain ⟨w9, hr9, ho9, hg9⟩ := HF.out (w1.drewN nq2) (ho1.drewN nq2) (hg1.drawnN nq2)
    clear hr1 ho1 hg1
    go_wp2_with (at_builtin; refine wpList_clear_q _ rfl (.tmp 31) _ rfl _ rfl (hr9 _ _) ?_)
    go_ret
    exact ⟨_, rfl, ho9, hg9, rfl⟩
set_option maxRecDepth 100000 in
set_option maxHeartbeats 8000000 in
theorem del1_knds (w : World) (B : Nat) (v : Value) (m : Nat) (xs : List Value) (hown : Own w B 34 3 v (m + 1) xs) (i : Nat) (hi : i ≤ m) (hx1 : ∀ u ∈ xs, u.oneCell' = true) (hm : m ≤ 1000000) :
    Calls Tryd.prog 116 #[v, .int .i64 i, .int .i64 ((i : Int) + 1)] w fun e w' => ∃ u, e = .returned u ∧ Own w' B 34 3 u m (xs.take (i * 3) ++ xs.drop ((i + 1) * 3)) ∧ w.grownBy w' v.ownBlock ∧ u.ownBlock = v.ownBlock := by
  obtain ⟨i0, ei, ez, ez1, ez2⟩ := info_parts clonec_knds_info
  obtain ⟨g, o, c, rfl, hBg, hgl⟩ := hown.addr (by omega)
  obtain ⟨_, c', hv, hmc, hcm⟩ := hown.form
  injection hv with hvA hvL hvC
  subst hvC
  clear hvL hvA
  unfold maxLen at hcm
  have hlen := hown.1
  have e1 : xs.take (i * 3) ++ xs.drop ((i + 1) * 3) = (xs.take (i * 3) ++ xs.drop ((i + 1) * 3) ++ xs.drop ((m + 1 - 1) * 3)).take (m * 3) :=
    (List.take_left' (by rw [List.length_append, List.length_take, List.length_drop, hlen]; omega)).symm
  have hfin : ∀ w1, Own w1 B 34 3 (.slice (some ⟨g, o, none⟩) (m + 1) c) (m + 1) (xs.take (i * 3) ++ xs.drop ((i + 1) * 3) ++ xs.drop ((m + 1 - 1) * 3)) → w.grownBy w1 (some g) →
      ∃ w9, (∀ ty c', (Builtin.clear_ #[22] ty #[.slice (some ⟨g, o + m * 3, none⟩) 1 c']).run Tryd.prog w1 = .ok (.tuple #[]) w9) ∧ Own w9 B 34 3 (.slice (some ⟨g, o, none⟩) m c) m (xs.take (i * 3) ++ xs.drop ((i + 1) * 3)) ∧ w.grownBy w9 (some g) := fun w1 h1 h2 => by
    obtain ⟨w9, hr9, ho9, hg9⟩ := h1.clear (P := Tryd.prog) (i := m) 22 i0 (.agg #[.string .empty, .slice none 0 0, .slice none 0 0]) 3 Tryd.underlying22 ei ez rfl (by kernel_rfl) (by decide) (by omega)
    rw [show m + 1 - m = 1 by omega] at hr9
    rw [← e1] at ho9
    exact ⟨w9, hr9, ho9, h2.trans hg9⟩
  have HF := Lib.hid hfin
  have hne : ((i : Int) == (i : Int) + 1) = false := beq_eq_false_iff_ne.2 (by omega)
  have hi' : (i : Int) ≤ (m : Int) := by omega
  have hm' : (m : Int) ≤ 1000000 := by omega
  have hmc' : (m : Int) + 1 ≤ (c : Int) := by omega
  have hcm' : ¬ c = m := by omega
  have hgd : ∀ nq, w.grownBy (w.drewN nq) (some g) := fun nq => (grownBy_refl w _).drawnN nq
  by_cases hc : c = i + 1
  · have him : m = i := by omega
    have hsh : ∀ nq, ∃ w1, (∀ ty c', (Builtin.append_ #[22, 22] ty #[.slice (some ⟨g, o, none⟩) i c, .slice (some ⟨g, o, none⟩) 0 c']).run Tryd.prog (w.drewN nq) = .ok (.slice (some ⟨g, o, none⟩) m c) w1) ∧
        Own w1 B 34 3 (.slice (some ⟨g, o, none⟩) (m + 1) c) (m + 1) (xs.take (i * 3) ++ xs.drop ((i + 1) * 3) ++ xs.drop ((m + 1 - 1) * 3)) ∧ w.grownBy w1 (some g) := fun nq => by
      obtain ⟨w1, hr1, ho1, hg1⟩ := (hown.drewN nq).shift (P := Tryd.prog) 22 i0 Tryd.underlying22 ei ez1 hx1 (show i < m + 1 by omega) ⟨g, o, none⟩ (fun j u hj => by
        rw [List.drop_of_length_le (by rw [hlen, him]; exact Nat.le_refl _)] at hj; simp at hj)
      rw [show m + 1 - (i + 1) = 0 by omega, show m + 1 - 1 = m by omega] at hr1
      exact ⟨w1, hr1, ho1, (hgd nq).trans hg1⟩
    have HSH := Lib.hid hsh
    subst him
    subst hc
    clear hown hx1 hfin hsh hgd e1 hlen ei ez ez1 ez2
    go_enter Tryd.func116, Tryd.ntmps116
    go_wp2_with fail
    refine wp_mid_k 6 _ rfl rfl (by kernel_rfl) (by kernel_rfl) ?_
    simp only [List.take_succ_cons, List.take_zero, List.drop_succ_cons, List.drop_zero]
    repeat (go_big_quiet_step (fail))
    refine wpQuiet_nil ?_
    intro _ hw'
    obtain ⟨nq, hw''⟩ := hw'
    subst hw''
    intro K hK
    obtain ⟨w1, hr1, ho1, hg1⟩ := HSH.out nq
    refine wp_append_z _ (.tmp 22) (.tmp 25) _ _ rfl _ _ rfl rfl (hr1 _ _) ?_
    refine hK _ _ ?_
    go_frame
    repeat (go_big_quiet_step (fail))
    refine wpQuiet_nil ?_
    intro _ hw'
    obtain ⟨nq2, hw''⟩ := hw'
    subst hw''
    clear hK
    obtain ⟨w9, hr9, ho9, hg9⟩ := HF.out (w1.drewN nq2) (ho1.drewN nq2) (hg1.drawnN nq2)
    clear hr1 ho1 hg1
    go_wp2_with (at_builtin; refine wpList_clear_q _ rfl (.tmp 31) _ rfl _ rfl (hr9 _ _) ?_)
    go_ret
    exact ⟨_, rfl, ho9, hg9, rfl⟩
  · have hsh : ∀ nq, ∃ w1, (∀ ty c', (Builtin.append_ #[22, 22] ty #[.slice (some ⟨g, o, none⟩) i c, .slice (some ⟨g, o + (i + 1) * 3, none⟩) (m - i) c']).run Tryd.prog (w.drewN nq) = .ok (.slice (some ⟨g, o, none⟩) m c) w1) ∧
        Own w1 B 34 3 (.slice (some ⟨g, o, none⟩) (m + 1) c) (m + 1) (xs.take (i * 3) ++ xs.drop ((i + 1) * 3) ++ xs.drop ((m + 1 - 1) * 3)) ∧ w.grownBy w1 (some g) := fun nq => by
      obtain ⟨w1, hr1, ho1, hg1⟩ := (hown.drewN nq).shift (P := Tryd.prog) 22 i0 Tryd.underlying22 ei ez1 hx1 (show i < m + 1 by omega) ⟨g, o + (i + 1) * 3, none⟩ (fun j u hj => by
        rw [addr_add, Nat.add_assoc]
        rw [List.getElem?_drop] at hj
        exact (hown.drewN nq).cell rfl hj)
      rw [show m + 1 - (i + 1) = m - i by omega, show m + 1 - 1 = m by omega] at hr1
      exact ⟨w1, hr1, ho1, (hgd nq).trans hg1⟩
    have HSH := Lib.hid hsh
    clear hown hx1 hfin hsh hgd e1 hlen ei ez ez1 ez2
    go_enter Tryd.func116, Tryd.ntmps116
    go_wp2_with fail
    refine wp_mid_k 6 _ rfl rfl (by kernel_rfl) (by kernel_rfl) ?_
    simp only [List.take_succ_cons, List.take_zero, List.drop_succ_cons, List.drop_zero]
    repeat (go_big_quiet_step (fail))
    refine wpQuiet_nil ?_
    intro _ hw'
    obtain ⟨nq, hw''⟩ := hw'
    subst hw''
    intro K hK
    obtain ⟨w1, hr1, ho1, hg1⟩ := HSH.out nq
    refine wp_append_z _ (.tmp 22) (.tmp 25) _ _ rfl _ _ rfl rfl (hr1 _ _) ?_
    refine hK _ _ ?_
    go_frame
    repeat (go_big_quiet_step (fail))
    refine wpQuiet_nil ?_
    intro _ hw'
    obtain ⟨nq2, hw''⟩ := hw'
    subst hw''
    clear hK
    obtain ⟨w9, hr9, ho9, hg9⟩ := HF.out (w1.drewN nq2) (ho1.drewN nq2) (hg1.drawnN nq2)
    clear hr1 ho1 hg1
    go_wp2_with (at_builtin; refine wpList_clear_q _ rfl (.tmp 31) _ rfl _ rfl (hr9 _ _) ?_)
    go_ret
    exact ⟨_, rfl, ho9, hg9, rfl⟩
set_option maxRecDepth 100000 in
set_option maxHeartbeats 8000000 in
theorem del1_bnds (w : World) (B : Nat) (v : Value) (m : Nat) (xs : List Value) (hown : Own w B 36 5 v (m + 1) xs) (i : Nat) (hi : i ≤ m) (hx1 : ∀ u ∈ xs, u.oneCell' = true) (hm : m ≤ 1000000) :
    Calls Tryd.prog 121 #[v, .int .i64 i, .int .i64 ((i : Int) + 1)] w fun e w' => ∃ u, e = .returned u ∧ Own w' B 36 5 u m (xs.take (i * 5) ++ xs.drop ((i + 1) * 5)) ∧ w.grownBy w' v.ownBlock ∧ u.ownBlock = v.ownBlock := by
  obtain ⟨i0, ei, ez, ez1, ez2⟩ := info_parts clone_bnds_info
  obtain ⟨g, o, c, rfl, hBg, hgl⟩ := hown.addr (by omega)
  obtain ⟨_, c', hv, hmc, hcm⟩ := hown.form
  injection hv with hvA hvL hvC
  subst hvC
  clear hvL hvA
  unfold maxLen at hcm
  have hlen := hown.1
  have e1 : xs.take (i * 5) ++ xs.drop ((i + 1) * 5) = (xs.take (i * 5) ++ xs.drop ((i + 1) * 5) ++ xs.drop ((m + 1 - 1) * 5)).take (m * 5) :=
    (List.take_left' (by rw [List.length_append, List.length_take, List.length_drop, hlen]; omega)).symm
  have hfin : ∀ w1, Own w1 B 36 5 (.slice (some ⟨g, o, none⟩) (m + 1) c) (m + 1) (xs.take (i * 5) ++ xs.drop ((i + 1) * 5) ++ xs.drop ((m + 1 - 1) * 5)) → w.grownBy w1 (some g) →
      ∃ w9, (∀ ty c', (Builtin.clear_ #[23] ty #[.slice (some ⟨g, o + m * 5, none⟩) 1 c']).run Tryd.prog w1 = .ok (.tuple #[]) w9) ∧ Own w9 B 36 5 (.slice (some ⟨g, o, none⟩) m c) m (xs.take (i * 5) ++ xs.drop ((i + 1) * 5)) ∧ w.grownBy w9 (some g) := fun w1 h1 h2 => by
    obtain ⟨w9, hr9, ho9, hg9⟩ := h1.clear (P := Tryd.prog) (i := m) 23 i0 (.agg #[.string .empty, .string .empty, .string .empty, .int .i64 0, .int .i64 0]) 5 Tryd.underlying23 ei ez rfl (by kernel_rfl) (by decide) (by omega)
    rw [show m + 1 - m = 1 by omega] at hr9
    rw [← e1] at ho9
    exact ⟨w9, hr9, ho9, h2.trans hg9⟩
  have HF := Lib.hid hfin
  have hne : ((i : Int) == (i : Int) + 1) = false := beq_eq_false_iff_ne.2 (by omega)
  have hi' : (i : Int) ≤ (m : Int) := by omega
  have hm' : (m : Int) ≤ 1000000 := by omega
  have hmc' : (m : Int) + 1 ≤ (c : Int) := by omega
  have hcm' : ¬ c = m := by omega
  have hgd : ∀ nq, w.grownBy (w.drewN nq) (some g) := fun nq => (grownBy_refl w _).drawnN nq
  by_cases hc : c = i + 1
  · have him : m = i := by omega
    have hsh : ∀ nq, ∃ w1, (∀ ty c', (Builtin.append_ #[23, 23] ty #[.slice (some ⟨g, o, none⟩) i c, .slice (some ⟨g, o, none⟩) 0 c']).run Tryd.prog (w.drewN nq) = .ok (.slice (some ⟨g, o, none⟩) m c) w1) ∧
        Own w1 B 36 5 (.slice (some ⟨g, o, none⟩) (m + 1) c) (m + 1) (xs.take (i * 5) ++ xs.drop ((i + 1) * 5) ++ xs.drop ((m + 1 - 1) * 5)) ∧ w.grownBy w1 (some g) := fun nq => by
      obtain ⟨w1, hr1, ho1, hg1⟩ := (hown.drewN nq).shift (P := Tryd.prog) 23 i0 Tryd.underlying23 ei ez1 hx1 (show i < m + 1 by omega) ⟨g, o, none⟩ (fun j u hj => by
        rw [List.drop_of_length_le (by rw [hlen, him]; exact Nat.le_refl _)] at hj; simp at hj)
      rw [show m + 1 - (i + 1) = 0 by omega, show m + 1 - 1 = m by omega] at hr1
      exact ⟨w1, hr1, ho1, (hgd nq).trans hg1⟩
    have HSH := Lib.hid hsh
    subst him
    subst hc
    clear hown hx1 hfin hsh hgd e1 hlen ei ez ez1 ez2
    go_enter Tryd.func121, Tryd.ntmps121
    go_wp2_with fail
    refine wp_mid_k 6 _ rfl rfl (by kernel_rfl) (by kernel_rfl) ?_
    simp only [List.take_succ_cons, List.take_zero, List.drop_succ_cons, List.drop_zero]
    repeat (go_big_quiet_step (fail))
    refine wpQuiet_nil ?_
    intro _ hw'
    obtain ⟨nq, hw''⟩ := hw'
    subst hw''
    intro K hK
    obtain ⟨w1, hr1, ho1, hg1⟩ := HSH.out nq
    refine wp_append_z _ (.tmp 22) (.tmp 25) _ _ rfl _ _ rfl rfl (hr1 _ _) ?_
    refine hK _ _ ?_
    go_frame
    repeat (go_big_quiet_step (fail))
    refine wpQuiet_nil ?_
    intro _ hw'
    obtain ⟨nq2, hw''⟩ := hw'
    subst hw''
    clear hK
    obtain ⟨w9, hr9, ho9, hg9⟩ := HF.out (w1.drewN nq2) (ho1.drewN nq2) (hg1.drawnN nq2)
    clear hr1 ho1 hg1
    go_wp2_with (at_builtin; refine wpList_clear_q _ rfl (.tmp 31) _ rfl _ rfl (hr9 _ _) ?_)
    go_ret
    exact ⟨_, rfl, ho9, hg9, rfl⟩
  · have hsh : ∀ nq, ∃ w1, (∀ ty c', (Builtin.append_ #[23, 23] ty #[.slice (some ⟨g, o, none⟩) i c, .slice (some ⟨g, o + (i + 1) * 5, none⟩) (m - i) c']).run Tryd.prog (w.drewN nq) = .ok (.slice (some ⟨g, o, none⟩) m c) w1) ∧
        Own w1 B 36 5 (.slice (some ⟨g, o, none⟩) (m + 1) c) (m + 1) (xs.take (i * 5) ++ xs.drop ((i + 1) * 5) ++ xs.drop ((m + 1 - 1) * 5)) ∧ w.grownBy w1 (some g) := fun nq => by
      obtain ⟨w1, hr1, ho1, hg1⟩ := (hown.drewN nq).shift (P := Tryd.prog) 23 i0 Tryd.underlying23 ei ez1 hx1 (show i < m + 1 by omega) ⟨g, o + (i + 1) * 5, none⟩ (fun j u hj => by
        rw [addr_add, Nat.add_assoc]
        rw [List.getElem?_drop] at hj
        exact (hown.drewN nq).cell rfl hj)
      rw [show m + 1 - (i + 1) = m - i by omega, show m + 1 - 1 = m by omega] at hr1
      exact ⟨w1, hr1, ho1, (hgd nq).trans hg1⟩
    have HSH := Lib.hid hsh
    clear hown hx1 hfin hsh hgd e1 hlen ei ez ez1 ez2
    go_enter Tryd.func121, Tryd.ntmps121
    go_wp2_with fail
    refine wp_mid_k 6 _ rfl rfl (by kernel_rfl) (by kernel_rfl) ?_
    simp only [List.take_succ_cons, List.take_zero, List.drop_succ_cons, List.drop_zero]
    repeat (go_big_quiet_step (fail))
    refine wpQuiet_nil ?_
    intro _ hw'
    obtain ⟨nq, hw''⟩ := hw'
    subst hw''
    intro K hK
    obtain ⟨w1, hr1, ho1, hg1⟩ := HSH.out nq
    refine wp_append_z _ (.tmp 22) (.tmp 25) _ _ rfl _ _ rfl rfl (hr1 _ _) ?_
    refine hK _ _ ?_
    go_frame
    repeat (go_big_quiet_step (fail))
    refine wpQuiet_nil ?_
    intro _ hw'
    obtain ⟨nq2, hw''⟩ := hw'
    subst hw''
    clear hK
    obtain ⟨w9, hr9, ho9, hg9⟩ := HF.out (w1.drewN nq2) (ho1.drewN nq2) (hg1.drawnN nq2)
    clear hr1 ho1 hg1
    go_wp2_with (at_builtin; refine wpList_clear_q _ rfl (.tmp 31) _ rfl _ rfl (hr9 _ _) ?_)
    go_ret
    exact ⟨_, rfl, ho9, hg9, rfl⟩
end Go.Proofs.YtldmofffogjlkaaDoor

/- Contract: change.rename. -/
namespace Go.Proofs.YtldmofffogjlkaaDoor
open Go Go.RowKit


theorem chas_some {l : List Fld} {nm : ByteArray} (h : chas l nm = true) : ∃ f, l[cpos l nm]? = some f := by
  unfold chas eqAt at h
  cases hd : l[cpos l nm]? with
  | none => rw [hd] at h; simp at h
  | some d => exact ⟨d, rfl⟩
def renE (fs : List Fld) (nm tow : ByteArray) : Int := if chas fs nm then (if nameE tow = 0 then (if chas fs tow then 7 else 0) else nameE tow) else 5
def delF (fs : List Fld) (nm : ByteArray) : List Fld := fs.take (cpos fs nm) ++ fs.drop (cpos fs nm + 1)
def renF (fs : List Fld) (nm tow : ByteArray) : List Fld := match fs[cpos fs nm]? with | some f => addF (delF fs nm) ⟨tow, f.ty, f.must, f.key⟩ | none => fs
theorem chain_del {l : List Fld} (h : Rise l) (p : Nat) : Rise (l.take p ++ l.drop (p + 1)) := by
  unfold Rise at *
  rw [← List.eraseIdx_eq_take_drop_succ]
  exact h.sublist (List.eraseIdx_sublist _ _)
set_option maxRecDepth 100000 in
set_option maxHeartbeats 8000000 in
theorem cren_any (s : Scm) (i : Nat) (d : Knd) (nm tow : ByteArray) (gb o ck : Nat) (vb : Value) (xs : List Value) (B : Nat) (w : World) (hB : B ≤ w.heap.size) (hS : OwnS w B (.slice (some ⟨gb, o, none⟩) s.kinds.length ck) vb s xs) (hd : s.kinds[i]? = some d)
    (hc : Rise d.fields) (hl : d.fields.length ≤ 1000) (hto : Sm tow) :
    Calls Tryd.prog 118 #[.pointer (some ⟨gb, o + i * 3, none⟩), .string nm, .string tow] w (RetKF B (.slice (some ⟨gb, o, none⟩) s.kinds.length ck) vb (setF s i d (renF d.fields nm tow)) (renE d.fields nm tow) w) := by
  obtain ⟨u, x, k0, k1, k2, hnm, hof, ou, hfo, ox⟩ := hS.o.get hd
  have c0 : w.cell? ⟨gb, o + i * 3, none⟩ = some (.string d.name) := hS.n.cell rfl k0
  have c1 : w.cell? ⟨gb, o + i * 3 + 1, none⟩ = some u := hS.n.cell (j := i * 3 + 1) rfl k1
  have c2 : w.cell? ⟨gb, o + i * 3 + 2, none⟩ = some x := hS.n.cell (j := i * 3 + 2) rfl k2
  obtain ⟨Au, cu, rfl, _, _⟩ := ou.form
  obtain ⟨Ax, cx, rfl, _, _⟩ := ox.form
  have hsl : Sl fldL w (.slice Ax d.fields.length cx) d.fields := ox.flds hfo
  have hf1 := cfield_any d.name d.fields nm Au d.ofs.length cu _ w hsl (rise_chain hc) hl
  have HS := Lib.hid hS
  have HD := Lib.hid hd
  have HC := Lib.hid hc
  have HK2 := Lib.hid k2
  have HRE : Hid (renE d.fields nm tow = if chas d.fields nm then (if nameE tow = 0 then (if chas d.fields tow then 7 else 0) else nameE tow) else 5) := rfl
  have HRF : Hid (∀ f, d.fields[cpos d.fields nm]? = some f → renF d.fields nm tow = addF (delF d.fields nm) ⟨tow, f.ty, f.must, f.key⟩) := fun f h => by unfold renF; rw [h]
  have HCS : Hid (chas d.fields nm = true → ∃ f, d.fields[cpos d.fields nm]? = some f) := chas_some
  have HDF : Hid (delF d.fields nm = d.fields.take (cpos d.fields nm) ++ d.fields.drop (cpos d.fields nm + 1)) := rfl
  clear hS hd hc k0 k1 k2 ou hof hnm
  generalize chas d.fields nm = q at *
  generalize cpos d.fields nm = p at *
  go_enter Tryd.func118, Tryd.ntmps118
  go_wp2_with fail
  refine hf1.mono ?_
  clear hf1
  rintro e w1 ⟨rfl, hb1⟩
  have c0 := cell_below hb1 c0
  have c1 := cell_below hb1 c1
  have c2 := cell_below hb1 c2
  have hs1 := hb1.size
  have HB1 := Lib.hid (hb1.mono hB)
  have HM1 : Hid (Same 25 w w1) := Same.below hb1
  have HS1 := Lib.hid (HS.out.below hb1)
  have HL1 := Lib.hid (hsl.below hb1)
  clear hb1 HS hsl
  cases q with
  | false =>
    have HF : Hid (renE d.fields nm tow = 5) := by unfold Hid; rw [HRE.out]; rfl
    clear HRE
    go_wp2_with fail
    go_ret
    exact ⟨by rw [HF.out]; rfl, (fun h => by rw [HF.out] at h; omega), HB1.out, HM1.out, hs1⟩
  | true =>
    obtain ⟨f, hf⟩ := HCS.out rfl
    have HRF2 := Lib.hid (HRF.out f hf)
    have HFA := Lib.hid hf
    have HRE2 : Hid (renE d.fields nm tow = if nameE tow = 0 then (if chas d.fields tow then 7 else 0) else nameE tow) := by unfold Hid; rw [HRE.out]; rfl
    clear HRE HRF HCS hf
    go_wp2_with fail
    refine (name_any tow w1 hto).mono ?_
    rintro e w2 ⟨rfl, hb2⟩
    have c0 := cell_below hb2 c0
    have c1 := cell_below hb2 c1
    have c2 := cell_below hb2 c2
    have hs2 : w.heap.size ≤ w2.heap.size := by have := hb2.size; omega
    have HB2 : Hid (Below B w w2) := HB1.out.trans (hb2.mono (by omega))
    have HM2 : Hid (Same 25 w w2) := HM1.out.trans (Same.below hb2)
    have HS2 := Lib.hid (HS1.out.below hb2)
    have hsl2 := HL1.out.below hb2
    clear hb2 HS1 HL1 HB1 HM1
    by_cases he : nameE tow = 0
    case neg =>
      have HF : Hid (errV (renE d.fields nm tow) = .iface 87 (.int .i64 (nameE tow)) ∧ ¬ renE d.fields nm tow = 0) := by
        have h0 : renE d.fields nm tow = nameE tow := by rw [HRE2.out, if_neg he]
        exact ⟨by rw [h0]; exact errV_some he, by rw [h0]; exact he⟩
      rw [errV_some he]
      clear he HRE2
      go_wp2_with fail
      go_ret
      exact ⟨by rw [HF.out.1]; rfl, (fun h => absurd h HF.out.2), HB2.out, HM2.out, hs2⟩
    have HRE3 : Hid (renE d.fields nm tow = if chas d.fields tow then 7 else 0) := by unfold Hid; rw [HRE2.out, if_pos he]
    rw [errV_zero he]
    have hf2 := cfield_any d.name d.fields tow Au d.ofs.length cu _ w2 hsl2 (rise_chain HC.out) hl
    have HL2 := Lib.hid hsl2
    clear he HRE2 hsl2
    generalize chas d.fields tow = q at *
    generalize cpos d.fields tow = p2 at *
    go_wp2_with fail
    refine hf2.mono ?_
    clear hf2
    rintro e w3 ⟨rfl, hb3⟩
    have c0 := cell_below hb3 c0
    have c1 := cell_below hb3 c1
    have c2 := cell_below hb3 c2
    have hs3 : w.heap.size ≤ w3.heap.size := by have := hb3.size; omega
    have HB3 : Hid (Below B w w3) := HB2.out.trans (hb3.mono (by omega))
    have HM3 : Hid (Same 25 w w3) := HM2.out.trans (Same.below hb3)
    have HS3 := Lib.hid (HS2.out.below hb3)
    have HL3 := Lib.hid (HL2.out.below hb3)
    clear hb3 HS2 HL2 HB2 HM2
    cases q with
    | true =>
      have HF : Hid (renE d.fields nm tow = 7) := by unfold Hid; rw [HRE3.out]; rfl
      clear HRE3
      go_wp2_with fail
      go_ret
      exact ⟨by rw [HF.out]; rfl, (fun h => by rw [HF.out] at h; omega), HB3.out, HM3.out, hs3⟩
    | false =>
      have HF : Hid (renE d.fields nm tow = 0) := by unfold Hid; rw [HRE3.out]; rfl
      clear HRE3
      obtain ⟨bf, of, rfl, hfok, z0, z1, z2, z3⟩ := fld_at HL3.out HFA.out
      have hpl := (List.getElem?_eq_some_iff.1 HFA.out).1
      have hpl' : (p : Int) < (d.fields.length : Int) := by omega
      have hl' : (d.fields.length : Int) ≤ 1000 := by omega
      obtain ⟨m, hm⟩ : ∃ m, d.fields.length = m + 1 := ⟨d.fields.length - 1, by omega⟩
      have hxb : Below w3.heap.size w3 (w3.alloc (.cells #[.string tow, .int .i64 f.ty, .bool f.must, .bool f.key] 38)) := (Below.refl _ _).alloc (Nat.le_refl _) _
      have hS4 := HS3.out.below hxb
      obtain ⟨_, _, _, _, k4, _, _, _, hfo4, ox4⟩ := hS4.o.get HD.out
      obtain rfl := Option.some.inj (HK2.out.symm.trans k4)
      have hbf := (ox4.lt bf rfl).2
      rw [hm] at ox4
      have hdel := del1_flds (w3.alloc (.cells #[.string tow, .int .i64 f.ty, .bool f.must, .bool f.key] 38)) B (.slice (some ⟨bf, of, none⟩) (m + 1) cx) m (d.fields.flatMap Fld.enc) ox4 p (by omega) (oneCell_flat Fld.enc_one d.fields) (by omega)
      rw [flat_take Fld.enc_len d.fields p (by omega), flat_drop Fld.enc_len d.fields (p + 1) (by omega), ← List.flatMap_append, ← HDF.out] at hdel
      have HDL : Hid ((delF d.fields nm).length = m) := by unfold Hid; rw [HDF.out]; simp; omega
      have HDR : Hid (Rise (delF d.fields nm)) := by unfold Hid; rw [HDF.out]; exact chain_del HC.out p
      have HDO : Hid (∀ y ∈ delF d.fields nm, y.ok) := fun y hy => by
        rw [HDF.out] at hy
        rcases List.mem_append.1 hy with h | h
        · exact hfo4 y (List.mem_of_mem_take h)
        · exact hfo4 y (List.mem_of_mem_drop h)
      have HS4 := Lib.hid hS4
      have HOX := Lib.hid ox4
      have v0 := cell_below hxb c0
      have v1 := cell_below hxb c1
      have v2 := cell_below hxb c2
      have hbn := heap_alloc_new w3 (.cells #[.string tow, .int .i64 f.ty, .bool f.must, .bool f.key] 38)
      have HB4 : Hid (Below B w (w3.alloc (.cells #[.string tow, .int .i64 f.ty, .bool f.must, .bool f.key] 38))) := HB3.out.alloc (by omega) _
      have HM4 : Hid (Same 25 w (w3.alloc (.cells #[.string tow, .int .i64 f.ty, .bool f.must, .bool f.key] 38))) := HM3.out.trans (Same.below hxb)
      have hs4 : (w3.alloc (.cells #[.string tow, .int .i64 f.ty, .bool f.must, .bool f.key] 38)).heap.size = w3.heap.size + 1 := by simp
      have hbf3 := (HS3.out.o.get HD.out)
      have hbf3' : bf < w3.heap.size := by
        obtain ⟨_, _, _, _, k5, _, _, _, _, ox5⟩ := hbf3
        obtain rfl := Option.some.inj (HK2.out.symm.trans k5)
        exact (ox5.lt bf rfl).2
      clear hS4 k4 ox4 hfo4 hbf3 HL3
      rw [hm] at v2 c2
      have hpm : (p : Int) < (m : Int) + 1 := by omega
      have hpm2 : (p : Int) < ((m + 1 : Nat) : Int) := by omega
      have hm9 : (m : Int) ≤ 1000 := by omega
      clear hm hbf
      go_wp2_with fail
      generalize hW4 : w3.alloc (.cells #[.string tow, .int .i64 f.ty, .bool f.must, .bool f.key] 38) = W4 at *
      refine hdel.mono ?_
      clear hdel
      rintro e w5 ⟨u5, rfl, ho5, hg5, hu5⟩
      have hfin := field_put HS4.out HD.out HK2.out (by rw [HDL.out]; exact ho5) hg5 (.inl hu5) HDO.out
      have hfr := hfin.2.2.1
      have hcl := hfin.2.2.2.1
      have hb5 := (hg5.block w3.heap.size (by omega) (fun e => by simp [Value.ownBlock] at e; omega)).trans hbn
      obtain ⟨A5, c5, rfl, _, _⟩ := ho5.form
      have hd6 : (setF s i d (delF d.fields nm)).kinds[i]? = some ⟨d.name, d.ofs, delF d.fields nm⟩ := List.getElem?_set_self (List.getElem?_eq_some_iff.1 HD.out).1
      have hxl : i * 3 + 2 < xs.length := (List.getElem?_eq_some_iff.1 HK2.out).1
      have HK6 : Hid ((xs.set (i * 3 + 2) (.slice A5 m c5))[i * 3 + 2]? = some (.slice A5 m c5)) := List.getElem?_set_self hxl
      have hS6 := hfin.1
      have hlen6 : (setF s i d (delF d.fields nm)).kinds.length = s.kinds.length := List.length_set ..
      have n6 := hS6.n
      rw [hlen6] at n6
      obtain ⟨u6, x6, k60, k61, k62, _, _, ou6, hfo6, ox6⟩ := hS6.o.get hd6
      obtain rfl := Option.some.inj (HK6.out.symm.trans k62)
      have e0 : (w5.setCell ⟨gb, o + i * 3 + 2, none⟩ (.slice A5 m c5)).cell? ⟨gb, o + i * 3, none⟩ = some (.string d.name) := n6.cell rfl k60
      have e1 : (w5.setCell ⟨gb, o + i * 3 + 2, none⟩ (.slice A5 m c5)).cell? ⟨gb, o + i * 3 + 1, none⟩ = some u6 := n6.cell (j := i * 3 + 1) rfl k61
      have e2 : (w5.setCell ⟨gb, o + i * 3 + 2, none⟩ (.slice A5 m c5)).cell? ⟨gb, o + i * 3 + 2, none⟩ = some (.slice A5 m c5) := n6.cell (j := i * 3 + 2) rfl k62
      obtain ⟨A6, c6, rfl, _, _⟩ := ou6.form
      have hgl : gb < w3.heap.size := (HS3.out.n.lt gb rfl).2
      have b6 : (w5.setCell ⟨gb, o + i * 3 + 2, none⟩ (.slice A5 m c5)).heap[w3.heap.size]? = some (.cells #[.string tow, .int .i64 f.ty, .bool f.must, .bool f.key] 38 (0, 0)) := by
        rw [Below.heap_setCell _ _ _ _ (by show w3.heap.size ≠ gb; omega)]; exact hb5
      have hcf := cfield_any d.name (delF d.fields nm) tow A6 d.ofs.length c6 (.slice A5 m c5) _ (ox6.flds hfo6) (rise_chain HDR.out) (by rw [HDL.out]; omega)
      have hs5 := hg5.size
      have HB6 : Hid (Below B w (w5.setCell ⟨gb, o + i * 3 + 2, none⟩ (.slice A5 m c5))) := (HB4.out.grown hg5 (by omega) (fun k e => (HOX.out.lt k e).1)).setCell (p := ⟨gb, o + i * 3 + 2, none⟩) hfin.2.2.2.2 _
      have HM6 : Hid (Same 25 w (w5.setCell ⟨gb, o + i * 3 + 2, none⟩ (.slice A5 m c5))) := HM4.out.trans (hfin.2.1 25 (by decide) (by decide))
      have HL6 := Lib.hid hlen6
      have HS6 := Lib.hid hS6
      have HD6 := Lib.hid hd6
      have hw6 : w.heap.size ≤ (w5.setCell ⟨gb, o + i * 3 + 2, none⟩ (.slice A5 m c5)).heap.size := by simp [World.setCell]; omega
      have q0 := block_cell b6 0
      have q1 := block_cell b6 1
      have q2 := block_cell b6 2
      have q3 := block_cell b6 3
      have HAF : Hid (addF (delF d.fields nm) ⟨tow, f.ty, f.must, f.key⟩ = (delF d.fields nm).take (cpos (delF d.fields nm) tow) ++ ⟨tow, f.ty, f.must, f.key⟩ :: (delF d.fields nm).drop (cpos (delF d.fields nm) tow)) := rfl
      have hKl : cpos (delF d.fields nm) tow ≤ (delF d.fields nm).length := lowI_le _ _
      generalize chas (delF d.fields nm) tow = qq at *
      generalize cpos (delF d.fields nm) tow = Kp at *
      clear n6 hlen6 hfin ho5 hg5 hu5 hS6 hd6 k60 k61 k62 ou6 ox6 hfo6 hbn hb5 b6
      go_wp2_with fail
      generalize hW6 : w5.setCell ⟨gb, o + i * 3 + 2, none⟩ (.slice A5 m c5) = W6 at *
      refine hcf.mono ?_
      clear hcf
      rintro e w7 ⟨rfl, hb7⟩
      have x0 := cell_below hb7 q0
      have x1 := cell_below hb7 q1
      have x2 := cell_below hb7 q2
      have x3 := cell_below hb7 q3
      have c2 := cell_below hb7 e2
      have HS7 := Lib.hid (HS6.out.below hb7)
      have HB7 : Hid (Below B w w7) := HB6.out.trans (hb7.mono (by omega))
      have HM7 : Hid (Same 25 w w7) := HM6.out.trans (Same.below hb7)
      have hw7 : w.heap.size ≤ w7.heap.size := by have := hb7.size; omega
      clear q0 q1 q2 q3 e0 e1 e2 v0 v1 v2
      have hS7 : OwnS w7 B (.slice (some ⟨gb, o, none⟩) (setF s i d (delF d.fields nm)).kinds.length ck) vb (setF s i d (delF d.fields nm)) (xs.set (i * 3 + 2) (.slice A5 m c5)) := by rw [HL6.out]; exact HS7.out
      have HSF : Hid (setF (setF s i d (delF d.fields nm)) i ⟨d.name, d.ofs, delF d.fields nm⟩ (addF (delF d.fields nm) ⟨tow, f.ty, f.must, f.key⟩) = setF s i d (renF d.fields nm tow)) := by
        rw [HRF2.out]; unfold Hid setF; simp
      have hxb : Below w7.heap.size w7 (w7.alloc (.cells #[.string tow, .int .i64 f.ty, .bool f.must, .bool f.key] 38)) := (Below.refl _ _).alloc (Nat.le_refl _) _
      have hxd := hxb.drew
      have hSx := hS7.below hxd
      obtain ⟨_, _, _, _, k2x, _, _, _, hfo, ox⟩ := hSx.o.get HD6.out
      obtain rfl := Option.some.inj (HK6.out.symm.trans k2x)
      have hbl := ox.lt
      have hbl7 : ∀ k, (Value.slice A5 m c5).ownBlock = some k → k < w7.heap.size := fun k e => by
        obtain ⟨_, _, _, _, k2y, _, _, _, _, oy⟩ := hS7.o.get HD6.out
        obtain rfl := Option.some.inj (HK6.out.symm.trans k2y)
        exact (oy.lt k e).2
      have ox' : Own (w7.alloc (.cells #[.string tow, .int .i64 f.ty, .bool f.must, .bool f.key] 38)).drew B 38 4 (.slice A5 m c5) (delF d.fields nm).length ((delF d.fields nm).flatMap Fld.enc) := ox
      have hil := ins_fld_at (w7.alloc (.cells #[.string tow, .int .i64 f.ty, .bool f.must, .bool f.key] 38)).drew B (.slice A5 m c5) (delF d.fields nm).length ((delF d.fields nm).flatMap Fld.enc) ox' Kp hKl w7.heap.size (⟨tow, f.ty, f.must, f.key⟩ : Fld).enc rfl (heap_alloc_new w7 _) (Fld.enc_one _) (oneCell_flat Fld.enc_one _)
        (fun e => by have := hbl7 _ e; omega) (by have := hxd.size; omega) (by rw [HDL.out]; omega)
      have hfi := flat_insert Fld.enc_len (delF d.fields nm) Kp hKl ⟨tow, f.ty, f.must, f.key⟩
      rw [hfi, ← HAF.out] at hil
      have HAL : Hid ((addF (delF d.fields nm) ⟨tow, f.ty, f.must, f.key⟩).length = (delF d.fields nm).length + 1) := by rw [HAF.out]; unfold Hid; simp; omega
      have HAOK : Hid (∀ y ∈ addF (delF d.fields nm) ⟨tow, f.ty, f.must, f.key⟩, y.ok) := fun y hy => by
        rw [HAF.out] at hy
        rcases List.mem_append.1 hy with h | h
        · exact HDO.out y (List.mem_of_mem_take h)
        · rcases List.mem_cons.1 h with rfl | h
          · exact ⟨hto, hfok.2⟩
          · exact HDO.out y (List.mem_of_mem_drop h)
      have HSX := Lib.hid hSx
      have HBX := Lib.hid hxd
      have c2x := cell_below hxb c2
      have x0x := cell_below hxb x0
      have x1x := cell_below hxb x1
      have x2x := cell_below hxb x2
      have x3x := cell_below hxb x3
      have HBL := Lib.hid hbl
      clear hfi hSx ox ox' k2x hfo hbl hbl7 hS7
      go_wp2_with fail
      go_region_law
        (first
          | (refine step_callx rfl 142 #[.slice A5 m c5, .int .i64 Kp, .slice (some ⟨w7.heap.size, 0, none⟩) 1 1] (by kernel_rfl) hil ?_
             rintro e w8 ⟨u8, rfl, ho8, hg8, hat8⟩
             refine ⟨_, rfl, ?_⟩
             have hfin := field_put HSX.out HD6.out HK6.out (by rw [HAL.out]; exact ho8) hg8 hat8 HAOK.out
             have hfr := hfin.2.2.1
             have hcl := hfin.2.2.2.1
             obtain ⟨A8, c8, rfl, _, _⟩ := ho8.form))
      all_goals
        have hbw8 : Below B w w8 := (HB7.out.trans (HBX.out.mono (by omega))).grown hg8 (by have := HBX.out.size; omega) (fun k e => (HBL.out k e).1)
        have hs8 := hg8.size
        have hs9 := HBX.out.size
        have hsm := HM7.out.trans ((Same.below HBX.out).trans (hfin.2.1 25 (by decide) (by decide)))
        have hgB := hfin.2.2.2.2
        have HFIN := Lib.hid hfin.1
        clear hfin ho8 hg8 hat8 hil c2x x0x x1x x2x x3x
        go_wp2_with fail
        go_ret
        exact ⟨by rw [HF.out]; rfl, (fun _ => ⟨_, by have := HFIN.out; rw [HSF.out, HL6.out] at this; exact this⟩), hbw8.setCell (p := ⟨gb, o + i * 3 + 2, none⟩) hgB _, hsm, by simp [World.setCell]; omega⟩
end Go.Proofs.YtldmofffogjlkaaDoor
