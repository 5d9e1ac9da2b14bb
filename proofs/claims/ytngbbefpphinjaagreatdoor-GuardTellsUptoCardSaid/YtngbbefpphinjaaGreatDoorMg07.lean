/- Parts: DelO, Numb, GrO, DelGone, TieF. -/
import Derived.Test.YtngbbefpphinjaaGreatDoorMg03
import Derived.Test.YtngbbefpphinjaaGreatDoorMg05
import Derived.Test.YtngbbefpphinjaaGreatDoorMg06
import Derived.Test.YtngbbefpphinjaaGreatDoorMg01
import Derived.Test.YtngbbefpphinjaaGreatDoorRows
import Derived.Deep.RegionLaw
import Derived.Deep.RegionHeld3
/- Contracts: slices.Delete of one node, of one tie, of one property. -/
namespace Go.Proofs.YtngbbefpphinjaaGreatDoor
open Go Go.RowKit
theorem wp_append_z {P : Program} (w : World) {o : Oper} {a : Act} {K : Act -> World -> Prop} {Q : Exit -> Act -> World -> Prop} (s x : Operand) (t tn : TypeId)
 (ho : o.op = .call { callee := .builtin .append, args := #[s, x], argTypes := #[t, tn] }) (v u : Value) (hs : a.eval s = v) (hx : a.eval x = u) {v' : Value} {w' : World}
 (hr : (Builtin.append_ #[t, tn] o.type #[v, u]).run P w = .ok v' w') (h : K (a.put o.dst v') w') : o.wp P a w K Q := by
 unfold Oper.wp execOp
 simp only [ho, resolve, invoke, builtin, Sem.run_bind, Sem.run_pure, Result.andThen_ok, List.map_toArray, List.map_cons, List.map_nil, hs, hx, hr]
 exact h
set_option maxRecDepth 100000 in
set_option maxHeartbeats 8000000 in
theorem del1_nods (w : World) (B : Nat) (v : Value) (m : Nat) (xs : List Value) (hown : Own w B 29 3 v (m + 1) xs) (i : Nat) (hi : i <= m) (hx1 : ∀ u ∈ xs, u.oneCell' = true) (hm : m <= 1000000) :
 Calls Tryz.prog 154 #[v, .int .i64 i, .int .i64 ((i : Int) + 1)] w fun e w' => ∃ u, e = .returned u /\ Own w' B 29 3 u m (xs.take (i * 3) ++ xs.drop ((i + 1) * 3)) /\ w.grownBy w' v.ownBlock /\ u.ownBlock = v.ownBlock := by
 obtain ⟨i0, ei, ez, ez1, ez2⟩ := info_parts clone_nods_info
 obtain ⟨g, o, c, rfl, hBg, hgl⟩ := hown.addr (by omega)
 obtain ⟨_, c', hv, hmc, hcm⟩ := hown.form
 injection hv with hvA hvL hvC
 subst hvC
 clear hvL hvA
 unfold maxLen at hcm
 have hlen := hown.1
 have e1 : xs.take (i * 3) ++ xs.drop ((i + 1) * 3) = (xs.take (i * 3) ++ xs.drop ((i + 1) * 3) ++ xs.drop ((m + 1 - 1) * 3)).take (m * 3) :=
  (List.take_left' (by rw [List.length_append, List.length_take, List.length_drop, hlen]; omega)).symm
 have hfin : ∀ w1, Own w1 B 29 3 (.slice (some ⟨g, o, none⟩) (m + 1) c) (m + 1) (xs.take (i * 3) ++ xs.drop ((i + 1) * 3) ++ xs.drop ((m + 1 - 1) * 3)) -> w.grownBy w1 (some g) ->
  ∃ w9, (∀ ty c', (Builtin.clear_ #[22] ty #[.slice (some ⟨g, o + m * 3, none⟩) 1 c']).run Tryz.prog w1 = .ok (.tuple #[]) w9) /\ Own w9 B 29 3 (.slice (some ⟨g, o, none⟩) m c) m (xs.take (i * 3) ++ xs.drop ((i + 1) * 3)) /\ w.grownBy w9 (some g) := fun w1 h1 h2 => by
  obtain ⟨w9, hr9, ho9, hg9⟩ := h1.clear (P := Tryz.prog) (i := m) 22 i0 (.agg #[.int .i64 0, .string .empty, .slice none 0 0]) 3 Tryz.underlying22 ei ez rfl (by kernel_rfl) (by decide) (by omega)
  rw [show m + 1 - m = 1 by omega] at hr9
  rw [<- e1] at ho9
  exact ⟨w9, hr9, ho9, h2.trans hg9⟩
 have HF := Lib.hid hfin
 have hne : ((i : Int) == (i : Int) + 1) = false := beq_eq_false_iff_ne.2 (by omega)
 have hi' : (i : Int) <= (m : Int) := by omega
 have hm' : (m : Int) <= 1000000 := by omega
 have hmc' : (m : Int) + 1 <= (c : Int) := by omega
 have hcm' : ¬ c = m := by omega
 have hgd : ∀ nq, w.grownBy (w.drewN nq) (some g) := fun nq => (grownBy_refl w _).drawnN nq
 by_cases hc : c = i + 1
 ·have him : m = i := by omega
  have hsh : ∀ nq, ∃ w1, (∀ ty c', (Builtin.append_ #[22, 22] ty #[.slice (some ⟨g, o, none⟩) i c, .slice (some ⟨g, o, none⟩) 0 c']).run Tryz.prog (w.drewN nq) = .ok (.slice (some ⟨g, o, none⟩) m c) w1) /\
   Own w1 B 29 3 (.slice (some ⟨g, o, none⟩) (m + 1) c) (m + 1) (xs.take (i * 3) ++ xs.drop ((i + 1) * 3) ++ xs.drop ((m + 1 - 1) * 3)) /\ w.grownBy w1 (some g) := fun nq => by
   obtain ⟨w1, hr1, ho1, hg1⟩ := (hown.drewN nq).shift (P := Tryz.prog) 22 i0 Tryz.underlying22 ei ez1 hx1 (show i < m + 1 by omega) ⟨g, o, none⟩ (fun j u hj => by
    rw [List.drop_of_length_le (by rw [hlen, him]; exact Nat.le_refl _)] at hj; simp at hj)
   rw [show m + 1 - (i + 1) = 0 by omega, show m + 1 - 1 = m by omega] at hr1
   exact ⟨w1, hr1, ho1, (hgd nq).trans hg1⟩
  have HSH := Lib.hid hsh
  subst him
  subst hc
  clear hown hx1 hfin hsh hgd e1 hlen ei ez ez1 ez2
  go_enter Tryz.func154, Tryz.ntmps154
  go_wp2_with fail
  refine wp_mid_k 6 _ rfl rfl (by kernel_rfl) (by kernel_rfl) ?_
  simp only [List.take_succ_cons, List.take_zero, List.drop_succ_cons, List.drop_zero]
  repeat (go_big_quiet_step (fail))
  refine wpQuiet_nil ?_
  intro _ hw'
  obtain ⟨nq, hw''⟩ := hw'
  subst hw''
  intro K hK
  obtain ⟨w1, hr1, ho1, hg1⟩ := HSH.out nq
  refine wp_append_z _ (.tmp 22) (.tmp 25) _ _ rfl _ _ rfl rfl (hr1 _ _) ?_
  refine hK _ _ ?_
  go_frame
  repeat (go_big_quiet_step (fail))
  refine wpQuiet_nil ?_
  intro _ hw'
  obtain ⟨nq2, hw''⟩ := hw'
  subst hw''
  clear hK
  obtain ⟨w9, hr9, ho9, hg9⟩ := HF.out (w1.drewN nq2) (ho1.drewN nq2) (hg1.drawnN nq2)
  clear hr1 ho1 hg1
  go_wp2_with (at_builtin; refine wpList_clear_q _ rfl (.tmp 31) _ rfl _ rfl (hr9 _ _) ?_)
  go_ret
  exact ⟨_, rfl, ho9, hg9, rfl⟩
 have hsh : ∀ nq, ∃ w1, (∀ ty c', (Builtin.append_ #[22, 22] ty #[.slice (some ⟨g, o, none⟩) i c, .slice (some ⟨g, o + (i + 1) * 3, none⟩) (m - i) c']).run Tryz.prog (w.drewN nq) = .ok (.slice (some ⟨g, o, none⟩) m c) w1) /\
  Own w1 B 29 3 (.slice (some ⟨g, o, none⟩) (m + 1) c) (m + 1) (xs.take (i * 3) ++ xs.drop ((i + 1) * 3) ++ xs.drop ((m + 1 - 1) * 3)) /\ w.grownBy w1 (some g) := fun nq => by
  obtain ⟨w1, hr1, ho1, hg1⟩ := (hown.drewN nq).shift (P := Tryz.prog) 22 i0 Tryz.underlying22 ei ez1 hx1 (show i < m + 1 by omega) ⟨g, o + (i + 1) * 3, none⟩ (fun j u hj => by
   rw [addr_add, Nat.add_assoc]
   rw [List.getElem?_drop] at hj
   exact (hown.drewN nq).cell rfl hj)
  rw [show m + 1 - (i + 1) = m - i by omega, show m + 1 - 1 = m by omega] at hr1
  exact ⟨w1, hr1, ho1, (hgd nq).trans hg1⟩
 have HSH := Lib.hid hsh
 clear hown hx1 hfin hsh hgd e1 hlen ei ez ez1 ez2
 go_enter Tryz.func154, Tryz.ntmps154
 go_wp2_with fail
 refine wp_mid_k 6 _ rfl rfl (by kernel_rfl) (by kernel_rfl) ?_
 simp only [List.take_succ_cons, List.take_zero, List.drop_succ_cons, List.drop_zero]
 repeat (go_big_quiet_step (fail))
 refine wpQuiet_nil ?_
 intro _ hw'
 obtain ⟨nq, hw''⟩ := hw'
 subst hw''
 intro K hK
 obtain ⟨w1, hr1, ho1, hg1⟩ := HSH.out nq
 refine wp_append_z _ (.tmp 22) (.tmp 25) _ _ rfl _ _ rfl rfl (hr1 _ _) ?_
 refine hK _ _ ?_
 go_frame
 repeat (go_big_quiet_step (fail))
 refine wpQuiet_nil ?_
 intro _ hw'
 obtain ⟨nq2, hw''⟩ := hw'
 subst hw''
 clear hK
 obtain ⟨w9, hr9, ho9, hg9⟩ := HF.out (w1.drewN nq2) (ho1.drewN nq2) (hg1.drawnN nq2)
 clear hr1 ho1 hg1
 go_wp2_with (at_builtin; refine wpList_clear_q _ rfl (.tmp 31) _ rfl _ rfl (hr9 _ _) ?_)
 go_ret
 exact ⟨_, rfl, ho9, hg9, rfl⟩
set_option maxRecDepth 100000 in
set_option maxHeartbeats 8000000 in
theorem del1_ties (w : World) (B : Nat) (v : Value) (m : Nat) (xs : List Value) (hown : Own w B 35 3 v (m + 1) xs) (i : Nat) (hi : i <= m) (hx1 : ∀ u ∈ xs, u.oneCell' = true) (hm : m <= 1000000) :
 Calls Tryz.prog 162 #[v, .int .i64 i, .int .i64 ((i : Int) + 1)] w fun e w' => ∃ u, e = .returned u /\ Own w' B 35 3 u m (xs.take (i * 3) ++ xs.drop ((i + 1) * 3)) /\ w.grownBy w' v.ownBlock /\ u.ownBlock = v.ownBlock := by
 obtain ⟨i0, ei, ez, ez1, ez2⟩ := info_parts clone_ties_info
 obtain ⟨g, o, c, rfl, hBg, hgl⟩ := hown.addr (by omega)
 obtain ⟨_, c', hv, hmc, hcm⟩ := hown.form
 injection hv with hvA hvL hvC
 subst hvC
 clear hvL hvA
 unfold maxLen at hcm
 have hlen := hown.1
 have e1 : xs.take (i * 3) ++ xs.drop ((i + 1) * 3) = (xs.take (i * 3) ++ xs.drop ((i + 1) * 3) ++ xs.drop ((m + 1 - 1) * 3)).take (m * 3) :=
  (List.take_left' (by rw [List.length_append, List.length_take, List.length_drop, hlen]; omega)).symm
 have hfin : ∀ w1, Own w1 B 35 3 (.slice (some ⟨g, o, none⟩) (m + 1) c) (m + 1) (xs.take (i * 3) ++ xs.drop ((i + 1) * 3) ++ xs.drop ((m + 1 - 1) * 3)) -> w.grownBy w1 (some g) ->
  ∃ w9, (∀ ty c', (Builtin.clear_ #[23] ty #[.slice (some ⟨g, o + m * 3, none⟩) 1 c']).run Tryz.prog w1 = .ok (.tuple #[]) w9) /\ Own w9 B 35 3 (.slice (some ⟨g, o, none⟩) m c) m (xs.take (i * 3) ++ xs.drop ((i + 1) * 3)) /\ w.grownBy w9 (some g) := fun w1 h1 h2 => by
  obtain ⟨w9, hr9, ho9, hg9⟩ := h1.clear (P := Tryz.prog) (i := m) 23 i0 (.agg #[.string .empty, .int .i64 0, .int .i64 0]) 3 Tryz.underlying23 ei ez rfl (by kernel_rfl) (by decide) (by omega)
  rw [show m + 1 - m = 1 by omega] at hr9
  rw [<- e1] at ho9
  exact ⟨w9, hr9, ho9, h2.trans hg9⟩
 have HF := Lib.hid hfin
 have hne : ((i : Int) == (i : Int) + 1) = false := beq_eq_false_iff_ne.2 (by omega)
 have hi' : (i : Int) <= (m : Int) := by omega
 have hm' : (m : Int) <= 1000000 := by omega
 have hmc' : (m : Int) + 1 <= (c : Int) := by omega
 have hcm' : ¬ c = m := by omega
 have hgd : ∀ nq, w.grownBy (w.drewN nq) (some g) := fun nq => (grownBy_refl w _).drawnN nq
 by_cases hc : c = i + 1
 ·have him : m = i := by omega
  have hsh : ∀ nq, ∃ w1, (∀ ty c', (Builtin.append_ #[23, 23] ty #[.slice (some ⟨g, o, none⟩) i c, .slice (some ⟨g, o, none⟩) 0 c']).run Tryz.prog (w.drewN nq) = .ok (.slice (some ⟨g, o, none⟩) m c) w1) /\
   Own w1 B 35 3 (.slice (some ⟨g, o, none⟩) (m + 1) c) (m + 1) (xs.take (i * 3) ++ xs.drop ((i + 1) * 3) ++ xs.drop ((m + 1 - 1) * 3)) /\ w.grownBy w1 (some g) := fun nq => by
   obtain ⟨w1, hr1, ho1, hg1⟩ := (hown.drewN nq).shift (P := Tryz.prog) 23 i0 Tryz.underlying23 ei ez1 hx1 (show i < m + 1 by omega) ⟨g, o, none⟩ (fun j u hj => by
    rw [List.drop_of_length_le (by rw [hlen, him]; exact Nat.le_refl _)] at hj; simp at hj)
   rw [show m + 1 - (i + 1) = 0 by omega, show m + 1 - 1 = m by omega] at hr1
   exact ⟨w1, hr1, ho1, (hgd nq).trans hg1⟩
  have HSH := Lib.hid hsh
  subst him
  subst hc
  clear hown hx1 hfin hsh hgd e1 hlen ei ez ez1 ez2
  go_enter Tryz.func162, Tryz.ntmps162
  go_wp2_with fail
  refine wp_mid_k 6 _ rfl rfl (by kernel_rfl) (by kernel_rfl) ?_
  simp only [List.take_succ_cons, List.take_zero, List.drop_succ_cons, List.drop_zero]
  repeat (go_big_quiet_step (fail))
  refine wpQuiet_nil ?_
  intro _ hw'
  obtain ⟨nq, hw''⟩ := hw'
  subst hw''
  intro K hK
  obtain ⟨w1, hr1, ho1, hg1⟩ := HSH.out nq
  refine wp_append_z _ (.tmp 22) (.tmp 25) _ _ rfl _ _ rfl rfl (hr1 _ _) ?_
  refine hK _ _ ?_
  go_frame
  repeat (go_big_quiet_step (fail))
  refine wpQuiet_nil ?_
  intro _ hw'
  obtain ⟨nq2, hw''⟩ := hw'
  subst hw''
  clear hK
  obtain ⟨w9, hr9, ho9, hg9⟩ := HF.out (w1.drewN nq2) (ho1.drewN nq2) (hg1.drawnN nq2)
  clear hr1 ho1 hg1
  go_wp2_with (at_builtin; refine wpList_clear_q _ rfl (.tmp 31) _ rfl _ rfl (hr9 _ _) ?_)
  go_ret
  exact ⟨_, rfl, ho9, hg9, rfl⟩
 have hsh : ∀ nq, ∃ w1, (∀ ty c', (Builtin.append_ #[23, 23] ty #[.slice (some ⟨g, o, none⟩) i c, .slice (some ⟨g, o + (i + 1) * 3, none⟩) (m - i) c']).run Tryz.prog (w.drewN nq) = .ok (.slice (some ⟨g, o, none⟩) m c) w1) /\
  Own w1 B 35 3 (.slice (some ⟨g, o, none⟩) (m + 1) c) (m + 1) (xs.take (i * 3) ++ xs.drop ((i + 1) * 3) ++ xs.drop ((m + 1 - 1) * 3)) /\ w.grownBy w1 (some g) := fun nq => by
  obtain ⟨w1, hr1, ho1, hg1⟩ := (hown.drewN nq).shift (P := Tryz.prog) 23 i0 Tryz.underlying23 ei ez1 hx1 (show i < m + 1 by omega) ⟨g, o + (i + 1) * 3, none⟩ (fun j u hj => by
   rw [addr_add, Nat.add_assoc]
   rw [List.getElem?_drop] at hj
   exact (hown.drewN nq).cell rfl hj)
  rw [show m + 1 - (i + 1) = m - i by omega, show m + 1 - 1 = m by omega] at hr1
  exact ⟨w1, hr1, ho1, (hgd nq).trans hg1⟩
 have HSH := Lib.hid hsh
 clear hown hx1 hfin hsh hgd e1 hlen ei ez ez1 ez2
 go_enter Tryz.func162, Tryz.ntmps162
 go_wp2_with fail
 refine wp_mid_k 6 _ rfl rfl (by kernel_rfl) (by kernel_rfl) ?_
 simp only [List.take_succ_cons, List.take_zero, List.drop_succ_cons, List.drop_zero]
 repeat (go_big_quiet_step (fail))
 refine wpQuiet_nil ?_
 intro _ hw'
 obtain ⟨nq, hw''⟩ := hw'
 subst hw''
 intro K hK
 obtain ⟨w1, hr1, ho1, hg1⟩ := HSH.out nq
 refine wp_append_z _ (.tmp 22) (.tmp 25) _ _ rfl _ _ rfl rfl (hr1 _ _) ?_
 refine hK _ _ ?_
 go_frame
 repeat (go_big_quiet_step (fail))
 refine wpQuiet_nil ?_
 intro _ hw'
 obtain ⟨nq2, hw''⟩ := hw'
 subst hw''
 clear hK
 obtain ⟨w9, hr9, ho9, hg9⟩ := HF.out (w1.drewN nq2) (ho1.drewN nq2) (hg1.drawnN nq2)
 clear hr1 ho1 hg1
 go_wp2_with (at_builtin; refine wpList_clear_q _ rfl (.tmp 31) _ rfl _ rfl (hr9 _ _) ?_)
 go_ret
 exact ⟨_, rfl, ho9, hg9, rfl⟩
set_option maxRecDepth 100000 in
set_option maxHeartbeats 8000000 in
theorem del1_prps (w : World) (B : Nat) (v : Value) (m : Nat) (xs : List Value) (hown : Own w B 33 4 v (m + 1) xs) (i : Nat) (hi : i <= m) (hx1 : ∀ u ∈ xs, u.oneCell' = true) (hm : m <= 1000000) :
 Calls Tryz.prog 160 #[v, .int .i64 i, .int .i64 ((i : Int) + 1)] w fun e w' => ∃ u, e = .returned u /\ Own w' B 33 4 u m (xs.take (i * 4) ++ xs.drop ((i + 1) * 4)) /\ w.grownBy w' v.ownBlock /\ u.ownBlock = v.ownBlock := by
 obtain ⟨i0, ei, ez, ez1, ez2⟩ := info_parts clone_prps_info
 obtain ⟨g, o, c, rfl, hBg, hgl⟩ := hown.addr (by omega)
 obtain ⟨_, c', hv, hmc, hcm⟩ := hown.form
 injection hv with hvA hvL hvC
 subst hvC
 clear hvL hvA
 unfold maxLen at hcm
 have hlen := hown.1
 have e1 : xs.take (i * 4) ++ xs.drop ((i + 1) * 4) = (xs.take (i * 4) ++ xs.drop ((i + 1) * 4) ++ xs.drop ((m + 1 - 1) * 4)).take (m * 4) :=
  (List.take_left' (by rw [List.length_append, List.length_take, List.length_drop, hlen]; omega)).symm
 have hfin : ∀ w1, Own w1 B 33 4 (.slice (some ⟨g, o, none⟩) (m + 1) c) (m + 1) (xs.take (i * 4) ++ xs.drop ((i + 1) * 4) ++ xs.drop ((m + 1 - 1) * 4)) -> w.grownBy w1 (some g) ->
  ∃ w9, (∀ ty c', (Builtin.clear_ #[27] ty #[.slice (some ⟨g, o + m * 4, none⟩) 1 c']).run Tryz.prog w1 = .ok (.tuple #[]) w9) /\ Own w9 B 33 4 (.slice (some ⟨g, o, none⟩) m c) m (xs.take (i * 4) ++ xs.drop ((i + 1) * 4)) /\ w.grownBy w9 (some g) := fun w1 h1 h2 => by
  obtain ⟨w9, hr9, ho9, hg9⟩ := h1.clear (P := Tryz.prog) (i := m) 27 i0 (.agg #[.string .empty, .int .i64 0, .int .i64 0, .string .empty]) 4 Tryz.underlying27 ei ez rfl (by kernel_rfl) (by decide) (by omega)
  rw [show m + 1 - m = 1 by omega] at hr9
  rw [<- e1] at ho9
  exact ⟨w9, hr9, ho9, h2.trans hg9⟩
 have HF := Lib.hid hfin
 have hne : ((i : Int) == (i : Int) + 1) = false := beq_eq_false_iff_ne.2 (by omega)
 have hi' : (i : Int) <= (m : Int) := by omega
 have hm' : (m : Int) <= 1000000 := by omega
 have hmc' : (m : Int) + 1 <= (c : Int) := by omega
 have hcm' : ¬ c = m := by omega
 have hgd : ∀ nq, w.grownBy (w.drewN nq) (some g) := fun nq => (grownBy_refl w _).drawnN nq
 by_cases hc : c = i + 1
 ·have him : m = i := by omega
  have hsh : ∀ nq, ∃ w1, (∀ ty c', (Builtin.append_ #[27, 27] ty #[.slice (some ⟨g, o, none⟩) i c, .slice (some ⟨g, o, none⟩) 0 c']).run Tryz.prog (w.drewN nq) = .ok (.slice (some ⟨g, o, none⟩) m c) w1) /\
   Own w1 B 33 4 (.slice (some ⟨g, o, none⟩) (m + 1) c) (m + 1) (xs.take (i * 4) ++ xs.drop ((i + 1) * 4) ++ xs.drop ((m + 1 - 1) * 4)) /\ w.grownBy w1 (some g) := fun nq => by
   obtain ⟨w1, hr1, ho1, hg1⟩ := (hown.drewN nq).shift (P := Tryz.prog) 27 i0 Tryz.underlying27 ei ez1 hx1 (show i < m + 1 by omega) ⟨g, o, none⟩ (fun j u hj => by
    rw [List.drop_of_length_le (by rw [hlen, him]; exact Nat.le_refl _)] at hj; simp at hj)
   rw [show m + 1 - (i + 1) = 0 by omega, show m + 1 - 1 = m by omega] at hr1
   exact ⟨w1, hr1, ho1, (hgd nq).trans hg1⟩
  have HSH := Lib.hid hsh
  subst him
  subst hc
  clear hown hx1 hfin hsh hgd e1 hlen ei ez ez1 ez2
  go_enter Tryz.func160, Tryz.ntmps160
  go_wp2_with fail
  refine wp_mid_k 6 _ rfl rfl (by kernel_rfl) (by kernel_rfl) ?_
  simp only [List.take_succ_cons, List.take_zero, List.drop_succ_cons, List.drop_zero]
  repeat (go_big_quiet_step (fail))
  refine wpQuiet_nil ?_
  intro _ hw'
  obtain ⟨nq, hw''⟩ := hw'
  subst hw''
  intro K hK
  obtain ⟨w1, hr1, ho1, hg1⟩ := HSH.out nq
  refine wp_append_z _ (.tmp 22) (.tmp 25) _ _ rfl _ _ rfl rfl (hr1 _ _) ?_
  refine hK _ _ ?_
  go_frame
  repeat (go_big_quiet_step (fail))
  refine wpQuiet_nil ?_
  intro _ hw'
  obtain ⟨nq2, hw''⟩ := hw'
  subst hw''
  clear hK
  obtain ⟨w9, hr9, ho9, hg9⟩ := HF.out (w1.drewN nq2) (ho1.drewN nq2) (hg1.drawnN nq2)
  clear hr1 ho1 hg1
  go_wp2_with (at_builtin; refine wpList_clear_q _ rfl (.tmp 31) _ rfl _ rfl (hr9 _ _) ?_)
  go_ret
  exact ⟨_, rfl, ho9, hg9, rfl⟩
 have hsh : ∀ nq, ∃ w1, (∀ ty c', (Builtin.append_ #[27, 27] ty #[.slice (some ⟨g, o, none⟩) i c, .slice (some ⟨g, o + (i + 1) * 4, none⟩) (m - i) c']).run Tryz.prog (w.drewN nq) = .ok (.slice (some ⟨g, o, none⟩) m c) w1) /\
  Own w1 B 33 4 (.slice (some ⟨g, o, none⟩) (m + 1) c) (m + 1) (xs.take (i * 4) ++ xs.drop ((i + 1) * 4) ++ xs.drop ((m + 1 - 1) * 4)) /\ w.grownBy w1 (some g) := fun nq => by
  obtain ⟨w1, hr1, ho1, hg1⟩ := (hown.drewN nq).shift (P := Tryz.prog) 27 i0 Tryz.underlying27 ei ez1 hx1 (show i < m + 1 by omega) ⟨g, o + (i + 1) * 4, none⟩ (fun j u hj => by
   rw [addr_add, Nat.add_assoc]
   rw [List.getElem?_drop] at hj
   exact (hown.drewN nq).cell rfl hj)
  rw [show m + 1 - (i + 1) = m - i by omega, show m + 1 - 1 = m by omega] at hr1
  exact ⟨w1, hr1, ho1, (hgd nq).trans hg1⟩
 have HSH := Lib.hid hsh
 clear hown hx1 hfin hsh hgd e1 hlen ei ez ez1 ez2
 go_enter Tryz.func160, Tryz.ntmps160
 go_wp2_with fail
 refine wp_mid_k 6 _ rfl rfl (by kernel_rfl) (by kernel_rfl) ?_
 simp only [List.take_succ_cons, List.take_zero, List.drop_succ_cons, List.drop_zero]
 repeat (go_big_quiet_step (fail))
 refine wpQuiet_nil ?_
 intro _ hw'
 obtain ⟨nq, hw''⟩ := hw'
 subst hw''
 intro K hK
 obtain ⟨w1, hr1, ho1, hg1⟩ := HSH.out nq
 refine wp_append_z _ (.tmp 22) (.tmp 25) _ _ rfl _ _ rfl rfl (hr1 _ _) ?_
 refine hK _ _ ?_
 go_frame
 repeat (go_big_quiet_step (fail))
 refine wpQuiet_nil ?_
 intro _ hw'
 obtain ⟨nq2, hw''⟩ := hw'
 subst hw''
 clear hK
 obtain ⟨w9, hr9, ho9, hg9⟩ := HF.out (w1.drewN nq2) (ho1.drewN nq2) (hg1.drawnN nq2)
 clear hr1 ho1 hg1
 go_wp2_with (at_builtin; refine wpList_clear_q _ rfl (.tmp 31) _ rfl _ rfl (hr9 _ _) ?_)
 go_ret
 exact ⟨_, rfl, ho9, hg9, rfl⟩
theorem step_here {P : Program} {ops : Array Oper} {o : Oper} {a : Act} {w : World} {K : Act -> World -> Prop} {Q : Exit -> Act -> World -> Prop} {E : Prop} (hg : o.guard = none) (h : Oper.wp P o a w K Q) :
 if Region.wanted o (yielded ops a.tmps) = true then Oper.wp P o a w K Q else E := by
 rw [if_pos (by simp [Region.wanted, hg])]; exact h
theorem step_callx {P : Program} {ops : Array Oper} {o : Oper} {a : Act} {w : World} {K : Act -> World -> Prop} {Q : Exit -> Act -> World -> Prop} {E : Prop} (hg : o.guard = none) (g : Nat) (vs : Array Value)
 (hr : (execOp a.eval o).run P w = .ok (.enter g vs) w) {R : Ending -> World -> Prop}
 (h : Calls P g vs w R) (hk : ∀ e w', R e w' -> ∃ u, e = .returned u /\ K (a.put o.dst u) w') :
 if Region.wanted o (yielded ops a.tmps) = true then Oper.wp P o a w K Q else E := by
 rw [if_pos (by simp [Region.wanted, hg])]
 unfold Oper.wp
 rw [hr, Oper.upon_enter]
 exact h.mono fun e w' hR => by
  obtain ⟨u, rfl, hK⟩ := hk e w' hR
  exact hK
theorem Same.cellOf {T e : TypeId} {w : World} {B sz g o n c : Nat} {xs : List Value} (h : Own w B e sz (.slice (some ⟨g, o, none⟩) n c) n xs) (hne : e ≠ T) (j : Nat) (u : Value) : Same T w (w.setCell ⟨g, j, none⟩ u) := by
 rcases h.2 with ⟨h0, _⟩ | ⟨g', o', cap, cur, hv, hb, hg, _⟩
 ·cases h0
 injection hv with e1 _ _
 injection e1 with e1
 injection e1 with e1 e2
 subst e1
 exact Same.setCell (p := ⟨g, j, none⟩) hg hne u
structure OwnI (w wr : World) (g : Grf) (xs0 : List Value) (vn vt : Value) (k : Nat) (ys : List Value) : Prop where
 b : Below w.heap.size w wr
 z : w.heap.size + 2 <= wr.heap.size
 q : wr.heap[w.heap.size]? = some (.cells #[vn, vt] 25 (0, 0))
 r : wr.heap[w.heap.size + 1]? = some (.cells #[.slice none 0 0, .slice none 0 0] 25 (0, 0))
 n : Own wr w.heap.size 29 3 vn g.nodes.length (ys ++ xs0.drop (k * 3))
 o : OwnNods wr w.heap.size (g.nodes.take k) ys
 t : Own wr w.heap.size 35 3 vt g.ties.length (g.ties.flatMap Tie.enc)
theorem OwnI.step {w wr w2 : World} {g : Grf} {xs0 ys : List Value} {gb o c : Nat} {vt u : Value} {k : Nat} {d : Nod} (h : OwnI w wr g xs0 (.slice (some ⟨gb, o, none⟩) g.nodes.length c) vt k ys) (hd : g.nodes[k]? = some d) (h1 : I64 d.id) (h2 : Sm d.kind)
 (hlen : xs0.length = g.nodes.length * 3) (hb : Below wr.heap.size wr w2) (hu : OwnP w2 wr.heap.size u d.props) :
 OwnI w (((w2.setCell ⟨gb, o + k * 3, none⟩ (.int .i64 d.id)).setCell ⟨gb, o + k * 3 + 1, none⟩ (.string d.kind)).setCell ⟨gb, o + k * 3 + 2, none⟩ u) g xs0 (.slice (some ⟨gb, o, none⟩) g.nodes.length c) vt (k + 1) (ys ++ [.int .i64 d.id, .string d.kind, u]) := by
 have hkl := (List.getElem?_eq_some_iff.1 hd).1
 have hz := h.z
 have hyl := h.o.len
 have hyl' : ys.length = k * 3 := by rw [hyl, List.length_take, Nat.min_eq_left (by omega)]
 have o0 := h.n.below hb
 have o1 := o0.store (k * 3) (by omega) (.int .i64 d.id)
 have o2 := o1.store (k * 3 + 1) (by omega) (.string d.kind)
 have o3 := o2.store (k * 3 + 2) (by omega) u
 have hs : ∀ T, 29 ≠ T -> Same T wr (((w2.setCell ⟨gb, o + k * 3, none⟩ (.int .i64 d.id)).setCell ⟨gb, o + k * 3 + 1, none⟩ (.string d.kind)).setCell ⟨gb, o + k * 3 + 2, none⟩ u) := fun T hT =>
  (Same.below hb).trans ((Same.cellOf o0 hT _ _).trans ((Same.cellOf o1 hT _ _).trans (Same.cellOf o2 hT _ _)))
 have hs2 : ∀ T, 29 ≠ T -> Same T w2 (((w2.setCell ⟨gb, o + k * 3, none⟩ (.int .i64 d.id)).setCell ⟨gb, o + k * 3 + 1, none⟩ (.string d.kind)).setCell ⟨gb, o + k * 3 + 2, none⟩ u) := fun T hT =>
  (Same.cellOf o0 hT _ _).trans ((Same.cellOf o1 hT _ _).trans (Same.cellOf o2 hT _ _))
 have hgb := (o0.lt gb rfl).1
 have hx : ((((ys ++ xs0.drop (k * 3)).set (k * 3) (.int .i64 d.id)).set (k * 3 + 1) (.string d.kind)).set (k * 3 + 2) u) = ys ++ [.int .i64 d.id, .string d.kind, u] ++ xs0.drop ((k + 1) * 3) := by
  have e : xs0.drop (k * 3) = (xs0.drop (k * 3)).take 3 ++ xs0.drop ((k + 1) * 3) := by
   rw [show (k + 1) * 3 = k * 3 + 3 by omega, <- List.drop_drop, List.take_append_drop]
  have hl3 : ((xs0.drop (k * 3)).take 3).length = 3 := by rw [List.length_take, List.length_drop]; omega
  rw [e]
  generalize (xs0.drop (k * 3)).take 3 = Z at *
  match Z, hl3 with
  | [a, b, c'], _ =>
   have s := setAll_append ys [.int .i64 d.id, .string d.kind, u] ([a, b, c'] ++ xs0.drop ((k + 1) * 3)) 0
   rw [setAll_head [.int .i64 d.id, .string d.kind, u] [a, b, c'] (xs0.drop ((k + 1) * 3)) rfl, Nat.add_zero, hyl'] at s
   rw [List.append_assoc]
   exact s
 rw [hx] at o3
 refine ⟨?_, ?_, hs _ (by decide) _ _ _ h.q, hs _ (by decide) _ _ _ h.r, ?_, ?_, h.t.same (hs _ (by decide))⟩
 ·exact (((h.b.trans (hb.mono h.b.size)).setCell (p := ⟨gb, _, none⟩) hgb _).setCell (p := ⟨gb, _, none⟩) hgb _).setCell (p := ⟨gb, _, none⟩) hgb _
 ·have := hb.size
  simp [World.setCell]; omega
 ·exact o3
 rw [take_snoc hd]
 exact (h.o.same (hs _ (by decide))).snoc h1 h2 hu.2 ((hu.1.same (hs2 _ (by decide))).mono (by omega))
set_option maxRecDepth 100000 in
set_option maxHeartbeats 8000000 in
theorem own_any (g : Grf) (vn vt : Value) (w : World) (hg : GrfR w vn vt g) (hn : g.nodes.length <= 1000) (ht : g.ties.length <= 1000) (hp : ∀ d ∈ g.nodes, d.props.length <= 1000) :
 Calls Tryz.prog 50 #[.agg #[vn, vt]] w fun e w' => ∃ un ut xs, e = .returned (.agg #[un, ut]) /\ OwnG w' w.heap.size un ut g xs /\ Below w.heap.size w w' := by
 obtain ⟨An, cn, rfl, _, _⟩ := hg.1.form
 obtain ⟨At, ct, rfl, _, _⟩ := hg.2.form
 have hb0 : Below w.heap.size w ((w.alloc (.cells #[.slice An g.nodes.length cn, .slice At g.ties.length ct] 25)).alloc (.cells #[.slice none 0 0, .slice none 0 0] 25)) := ((Below.refl _ _).alloc (Nat.le_refl _) _).alloc (by simp) _
 obtain ⟨xs0, hrow, hx0⟩ := Row.of_sl hg.1
 have hct := clone_ties (hg.2.below hb0) (by omega)
 have g0 : ((w.alloc (.cells #[.slice An g.nodes.length cn, .slice At g.ties.length ct] 25)).alloc (.cells #[.slice none 0 0, .slice none 0 0] 25)).heap[w.heap.size]? = some (.cells #[.slice An g.nodes.length cn, .slice At g.ties.length ct] 25 (0, 0)) := by
  rw [Below.heap_alloc _ _ _ (by simp)]; exact heap_alloc_new _ _
 have g1 : ((w.alloc (.cells #[.slice An g.nodes.length cn, .slice At g.ties.length ct] 25)).alloc (.cells #[.slice none 0 0, .slice none 0 0] 25)).heap[w.heap.size + 1]? = some (.cells #[.slice none 0 0, .slice none 0 0] 25 (0, 0)) := by
  have := heap_alloc_new (w.alloc (.cells #[.slice An g.nodes.length cn, .slice At g.ties.length ct] 25)) (.cells #[.slice none 0 0, .slice none 0 0] 25); simpa using this
 have x0 := block_cell g0 0
 have x1 := block_cell g0 1
 have HX := Lib.hid hx0
 have HROW := Lib.hid hrow
 have hsz : ((w.alloc (.cells #[.slice An g.nodes.length cn, .slice At g.ties.length ct] 25)).alloc (.cells #[.slice none 0 0, .slice none 0 0] 25)).heap.size = w.heap.size + 2 := by simp
 clear hg hrow hx0
 go_enter Tryz.func50, Tryz.ntmps50
 go_wp2_with fail
 refine hct.mono ?_
 clear hct
 rintro e w1 ⟨vt, xt, rfl, hot, hrt, hb1⟩
 obtain ⟨rfl, hok⟩ := Row.flat hrt
 have hot := Own.mono (B' := w.heap.size) hot (by rw [hsz]; omega)
 have hB1 := hb0.trans (hb1.mono hb0.size)
 have k0 := (hb1.block _ (geB g0)).trans g0
 have k1 := (hb1.block _ (geB g1)).trans g1
 have HK := Lib.hid hok
 obtain ⟨At2, ct2, rfl, _, _⟩ := hot.form
 have hs1 := hb1.size
 rw [hsz] at hs1
 have m0 := setCell_block k0 1 (.slice At2 g.ties.length ct2)
 have m1 : (w1.setCell ⟨w.heap.size, 1, none⟩ (.slice At2 g.ties.length ct2)).heap[w.heap.size + 1]? = some (.cells #[.slice none 0 0, .slice none 0 0] 25 (0, 0)) := by rw [Below.heap_setCell _ _ _ _ (by simp)]; exact k1
 have hot2 := hot.same (Same.setCell (T := 35) (p := ⟨w.heap.size, 1, none⟩) k0 (by decide) (.slice At2 g.ties.length ct2))
 have hB2 : Below w.heap.size w (w1.setCell ⟨w.heap.size, 1, none⟩ (.slice At2 g.ties.length ct2)) := hB1.setCell (p := ⟨w.heap.size, 1, none⟩) (Nat.le_refl _) _
 have hcn := clone_nods (A := An) (n := g.nodes.length) (c := cn) (w := w1.setCell ⟨w.heap.size, 1, none⟩ (.slice At2 g.ties.length ct2)) HROW.out.len (HROW.out.oneCell one_nod) (fun hp => by
  obtain ⟨b, o, hA, hy⟩ := HX.out hp
  exact ⟨b, o, hA, fun j u hj => cell_below hB2 (hy j u hj)⟩) (by omega)
 have f0 := block_free k0 1
 have c0 := block_cell k0 1
 have d0 := block_cell m0 0
 have d1 := block_free m0 0
 have d2 := block_cell m0 1
 have M0 := Lib.hid m0
 have M1 := Lib.hid m1
 have HOT := Lib.hid hot2
 have hs2 : (w1.setCell ⟨w.heap.size, 1, none⟩ (.slice At2 g.ties.length ct2)).heap.size = w1.heap.size := by simp [World.setCell]
 clear g0 g1 k0 k1 m0 m1 hot hot2 hrt hok x0 x1 hb1 hB1
 go_wp2_with fail
 refine hcn.mono ?_
 clear hcn
 rintro e w3 ⟨vn, rfl, hon, hb3⟩
 have hon := Own.mono (B' := w.heap.size) hon (by omega)
 have hB3 := hB2.trans (hb3.mono hB2.size)
 have n0 := (hb3.block _ (geB M0.out)).trans M0.out
 have n1 := (hb3.block _ (geB M1.out)).trans M1.out
 obtain ⟨An2, cn2, rfl, _, _⟩ := hon.form
 have hI0 : OwnI w (w3.setCell ⟨w.heap.size, 0, none⟩ (.slice An2 g.nodes.length cn2)) g xs0 (.slice An2 g.nodes.length cn2) (.slice At2 g.ties.length ct2) 0 [] := by
  have hs : ∀ T, 25 ≠ T -> Same T w3 (w3.setCell ⟨w.heap.size, 0, none⟩ (.slice An2 g.nodes.length cn2)) := fun T hT => Same.setCell (p := ⟨w.heap.size, 0, none⟩) n0 hT _
  refine ⟨hB3.setCell (p := ⟨w.heap.size, 0, none⟩) (Nat.le_refl _) _, ?_, ?_, ?_, ?_, rfl, ?_⟩
  ·have := hb3.size; simp [World.setCell] at this ⊢; omega
  ·have := setCell_block n0 0 (.slice An2 g.nodes.length cn2); simpa using this
  ·rw [Below.heap_setCell _ _ _ _ (by simp)]; exact n1
  ·rw [Nat.zero_mul, List.drop_zero, List.nil_append]; exact hon.same (hs _ (by decide))
  exact (HOT.out.below hb3).same (hs _ (by decide))
 have HI0 := Lib.hid hI0
 have e0 := block_cell n0 0
 have e1 := block_free n0 0
 have e2 := block_cell hI0.q 0
 have e3 := block_cell hI0.q 1
 have hn' : (g.nodes.length : Int) <= 1000 := by omega
 clear n0 n1 hon hI0 hb3 hB3 hB2 d0 d1 d2 c0 f0
 go_wp2_with fail
 go_loopw [16] (fun i wr => ∃ (k : Nat) (ys : List Value), k <= g.nodes.length /\ i = .int .i64 k /\ OwnI w wr g xs0 (.slice An2 g.nodes.length cn2) (.slice At2 g.ties.length ct2) k ys) (fun i _ => g.nodes.length - (intOf i).toNat)
 case atStart => exact ⟨0, [], Nat.zero_le _, rfl, HI0.out⟩
 clear HI0 e0 e1 e2 e3
 obtain ⟨k, ys, hk, rfl, hI⟩ := hrel
 have HI := Lib.hid hI
 have y0 := block_cell hI.q 0
 have y1 := block_cell hI.q 1
 have hrz := hI.z
 by_cases hlt : k < g.nodes.length
 ·obtain ⟨d, hd⟩ : ∃ d, g.nodes[k]? = some d := ⟨_, List.getElem?_eq_getElem hlt⟩
  have hlt' : (k : Int) < (g.nodes.length : Int) := by omega
  obtain ⟨gb, o, c2, hv, hgb1, hgb2⟩ := hI.n.addr (by omega)
  injection hv with hv1 hv2 hv3
  subst hv1; subst hv3
  obtain ⟨cs, hcs, hcx⟩ := HROW.out.get hd
  obtain ⟨u, rfl, h1, h2, h3⟩ := hcs
  have hyl : ys.length = k * 3 := by rw [hI.o.len, List.length_take, Nat.min_eq_left hk]
  have hat : ∀ j v, [Value.int .i64 d.id, Value.string d.kind, u][j]? = some v -> wr.cell? ⟨gb, o + (k * 3 + j), none⟩ = some v := fun j v hj => by
   refine hI.n.cell rfl ?_
   rw [List.getElem?_append_right (by omega), hyl, List.getElem?_drop, show k * 3 + (k * 3 + j - k * 3) = k * 3 + j by omega]
   exact hcx j v hj
  have z0 := hat 0 _ rfl
  have z1 : wr.cell? ⟨gb, o + k * 3 + 1, none⟩ = some (.string d.kind) := hat 1 _ rfl
  have z2 : wr.cell? ⟨gb, o + k * 3 + 2, none⟩ = some u := hat 2 _ rfl
  rw [Nat.add_zero] at z0
  obtain ⟨Au, cu, rfl, _, _⟩ := h3.form
  have hdp := hp d (List.mem_of_getElem? hd)
  have hbx : Below wr.heap.size wr (wr.alloc (.cells #[.int .i64 d.id, .string d.kind, .slice Au d.props.length cu] 29)) := (Below.refl _ _).alloc (Nat.le_refl _) _
  have HSL := Lib.hid ((h3.below hI.b).below hbx)
  have HXL := Lib.hid HROW.out.len
  have hcall := ownNode_any d (.slice Au d.props.length cu) ((wr.alloc (.cells #[.int .i64 d.id, .string d.kind, .slice Au d.props.length cu] 29)).drew) (HSL.out.below (Below.refl _ _).drew) (by omega)
  obtain ⟨b0, b1, b2⟩ := cell_box3 wr (.int .i64 d.id) (.string d.kind) (.slice Au d.props.length cu) 29
  have q0 := cell_below hbx y0
  have q1 := cell_below hbx y1
  have HD := Lib.hid hd
  clear hd hcx hat hI h3
  go_wp2_with fail
  go_region_law
   (first
     | (refine step_callx rfl 110 #[.agg #[.int .i64 d.id, .string d.kind, .slice Au d.props.length cu]] (by kernel_rfl) hcall ?_
        rintro e w2 ⟨u2, rfl, hu, hb2⟩
        refine ⟨_, rfl, ?_⟩
        have hb2' := hbx.drew.trans (hb2.mono hbx.drew.size)
        have p0 := cell_below hb2' y0
        have on2 := HI.out.n.below hb2'
        have z0' := cell_below hb2' z0
        have z1' := cell_below hb2' z1
        have z2' := cell_below hb2' z2
        have f0 := on2.frozen rfl (o + k * 3)
        have f1 := on2.frozen rfl (o + k * 3 + 1)
        have f2 := on2.frozen rfl (o + k * 3 + 2)
        obtain ⟨A2, c3, rfl, _, _⟩ := hu.1.form))
  all_goals
   have hu' : OwnP w2 wr.heap.size (.slice A2 d.props.length c3) d.props := ⟨hu.1.mono hbx.drew.size, hu.2⟩
   have HN := Lib.hid (HI.out.step HD.out h1 h2 HXL.out hb2' hu')
   clear hu hu' on2 z0' z1' z2' f0 f1 f2 p0 q0 q1 b0 b1 b2 z0 z1 z2 y0 y1 hb2 HI
   go_wp2_with fail
   go_roundw
   case rel => exact ⟨k + 1, _, by omega, by go_num, HN.out⟩
   case measure => simp [intOf]; omega
 obtain rfl : k = g.nodes.length := by omega
 have hF : Hid (∀ W, (∀ T, 25 ≠ T -> Same T wr W) -> OwnG W w.heap.size (.slice An2 g.nodes.length cn2) (.slice At2 g.ties.length ct2) g ys) := fun W hs => by
  have hn := HI.out.n
  have ho := HI.out.o
  rw [List.drop_of_length_le (by rw [HROW.out.len]; exact Nat.le_refl _), List.append_nil] at hn
  rw [List.take_length] at ho
  exact ⟨hn.same (hs _ (by decide)), ho.same (hs _ (by decide)), HI.out.t.same (hs _ (by decide)), HK.out⟩
 have m1 := hI.r
 have x0 := block_cell m1 0
 have x1 := block_cell m1 1
 have f0 := block_free m1 0
 have f1 := block_free m1 1
 have hb := hI.b
 have m2 := setCell_block m1 0 (.slice An2 g.nodes.length cn2)
 have m3 := setCell_block m2 1 (.slice At2 g.ties.length ct2)
 have HM1 := Lib.hid m1
 have HM2 := Lib.hid m2
 have HM3 := Lib.hid m3
 clear hI m1 m2 m3
 go_wp2_with fail
 have k2 := block_cell HM3.out 0
 have k3 := block_cell HM3.out 1
 exact bodyPost_ret (v := .agg #[.slice An2 g.nodes.length cn2, .slice At2 g.ties.length ct2]) (by simp [results, Tryz.results50, go_sem, k2, k3]) rfl ⟨_, _, ys, rfl, hF.out _ (fun T hT => (Same.setCell (p := ⟨w.heap.size + 1, 0, none⟩) HM1.out hT _).trans (Same.setCell (p := ⟨w.heap.size + 1, 1, none⟩) HM2.out hT _)),
  (hb.setCell (p := ⟨w.heap.size + 1, 0, none⟩) (by show w.heap.size <= w.heap.size + 1; omega) _).setCell (p := ⟨w.heap.size + 1, 1, none⟩) (by show w.heap.size <= w.heap.size + 1; omega) _⟩
theorem gone1_any (id : Int) (d : Tie) (bk : Nat) (w : World) (hc : w.cell? ⟨bk, 0, none⟩ = some (.int .i64 id)) :
 Calls Tryz.prog 156 #[.agg #[.string d.bond, .int .i64 d.src, .int .i64 d.dst], .pointer (some ⟨bk, 0, none⟩)] w fun e w' => e = .returned (.bool (touch id d)) /\ Below w.heap.size w w' := by
 have hb0 : Below w.heap.size w (w.alloc (.cells #[.string d.bond, .int .i64 d.src, .int .i64 d.dst] 35)) := (Below.refl _ _).alloc (Nat.le_refl _) _
 have hc2 := cell_below hb0 hc
 obtain ⟨z0, z1, z2⟩ := cell_box3 w (.string d.bond) (.int .i64 d.src) (.int .i64 d.dst) 35
 have HE : Hid (touch id d = ((d.src == id) || (d.dst == id))) := rfl
 cases h1 : (d.src == id) with
 | true =>
  have h1' : d.src = id := by simpa using h1
  subst h1'
  go_enter Tryz.func156, Tryz.ntmps156
  go_wp2_with fail
  go_ret
  exact ⟨by rw [HE.out, h1]; rfl, hb0⟩
 | false =>
  have h1' : ¬ d.src = id := by simpa using h1
  go_enter Tryz.func156, Tryz.ntmps156
  go_wp2_with fail
  go_ret
  exact ⟨by rw [HE.out, h1]; rfl, hb0⟩
theorem goneNods_len {g : Grf} {id : Int} (h : fpos g.nodes id < g.nodes.length) : (goneG g id).nodes.length = g.nodes.length - 1 := by
 unfold goneG; simp; omega
set_option maxRecDepth 100000 in
set_option maxHeartbeats 8000000 in
theorem gone_any (g : Grf) (id : Int) (vn vt : Value) (xs : List Value) (B : Nat) (w : World) (hB : B <= w.heap.size) (hG : OwnG w B vn vt g xs) (hc : chain nodLt g.nodes = true) (hn : g.nodes.length <= 1000) (ht : g.ties.length <= 1000) :
 Calls Tryz.prog 101 #[.agg #[vn, vt], .int .i64 id] w (RetOG B vn vt (goneG g id) (if fhas g.nodes id then 0 else 5) w) := by
 obtain ⟨An, cn, rfl, _, _⟩ := hG.n.form
 obtain ⟨At, ct, rfl, _, _⟩ := hG.t.form
 have hb0 : Below w.heap.size w (((w.alloc (.cells #[.slice An g.nodes.length cn, .slice At g.ties.length ct] 25)).alloc (.cells #[.int .i64 id] 3)).alloc (.cells #[.slice none 0 0, .slice none 0 0] 25)) := (((Below.refl _ _).alloc (Nat.le_refl _) _).alloc (by simp) _).alloc (by simp; omega) _
 have g0 : (((w.alloc (.cells #[.slice An g.nodes.length cn, .slice At g.ties.length ct] 25)).alloc (.cells #[.int .i64 id] 3)).alloc (.cells #[.slice none 0 0, .slice none 0 0] 25)).heap[w.heap.size]? = some (.cells #[.slice An g.nodes.length cn, .slice At g.ties.length ct] 25 (0, 0)) := by
  rw [Below.heap_alloc _ _ _ (by simp; omega), Below.heap_alloc _ _ _ (by simp)]; exact heap_alloc_new _ _
 have g1 : (((w.alloc (.cells #[.slice An g.nodes.length cn, .slice At g.ties.length ct] 25)).alloc (.cells #[.int .i64 id] 3)).alloc (.cells #[.slice none 0 0, .slice none 0 0] 25)).heap[w.heap.size + 1]? = some (.cells #[.int .i64 id] 3 (0, 0)) := by
  rw [Below.heap_alloc _ _ _ (by simp)]
  have := heap_alloc_new (w.alloc (.cells #[.slice An g.nodes.length cn, .slice At g.ties.length ct] 25)) (.cells #[.int .i64 id] 3); simpa using this
 have g2 : (((w.alloc (.cells #[.slice An g.nodes.length cn, .slice At g.ties.length ct] 25)).alloc (.cells #[.int .i64 id] 3)).alloc (.cells #[.slice none 0 0, .slice none 0 0] 25)).heap[w.heap.size + 1 + 1]? = some (.cells #[.slice none 0 0, .slice none 0 0] 25 (0, 0)) := by
  have := heap_alloc_new ((w.alloc (.cells #[.slice An g.nodes.length cn, .slice At g.ties.length ct] 25)).alloc (.cells #[.int .i64 id] 3)) (.cells #[.slice none 0 0, .slice none 0 0] 25); simpa using this
 have hsz : (((w.alloc (.cells #[.slice An g.nodes.length cn, .slice At g.ties.length ct] 25)).alloc (.cells #[.int .i64 id] 3)).alloc (.cells #[.slice none 0 0, .slice none 0 0] 25)).heap.size = w.heap.size + 3 := by simp
 generalize hW0 : (((w.alloc (.cells #[.slice An g.nodes.length cn, .slice At g.ties.length ct] 25)).alloc (.cells #[.int .i64 id] 3)).alloc (.cells #[.slice none 0 0, .slice none 0 0] 25)) = W0 at *
 have hG0 := hG.below hb0
 have hf := find_any g _ _ W0 hG0.r id hc hn
 have x0 := block_cell g0 0
 have x1 := block_cell g0 1
 have y0 := block_cell g1 0
 have HG := Lib.hid hG0
 have HW0 := Lib.hid hW0
 clear hG hG0
 obtain ⟨E, hE⟩ : ∃ E : Int, E = if fhas g.nodes id then 0 else 5 := ⟨_, rfl⟩
 rw [<- hE]
 have HE := Lib.hid hE
 clear hE
 go_enter Tryz.func101, Tryz.ntmps101
 go_wp2_with fail
 refine hf.mono ?_
 clear hf
 rintro e w1 ⟨rfl, hb1⟩
 have hB1 := hb0.trans (hb1.mono hb0.size)
 have m0 := (hb1.block _ (geB g0)).trans g0
 have m1 := (hb1.block _ (geB g1)).trans g1
 have m2 := (hb1.block _ (geB g2)).trans g2
 have hG1 := HG.out.below hb1
 have hs1 := hb1.size
 clear g0 g1 g2 x0 x1 y0 HG
 cases hq : fhas g.nodes id with
 | false =>
  have hE : E = 5 := by rw [HE.out, hq]; rfl
  subst hE
  have x0 := block_cell m0 0
  have x1 := block_cell m0 1
  have e0 := block_free m2 0
  have e1 := block_free m2 1
  have e2 := block_cell m2 0
  have e3 := block_cell m2 1
  have k3 := setCell_block (setCell_block m2 0 (.slice An g.nodes.length cn)) 1 (.slice At g.ties.length ct)
  have HM := Lib.hid k3
  clear m0 m1 m2 k3 hq
  go_wp2_with fail
  have k2 := block_cell HM.out 0
  have k3 := block_cell HM.out 1
  exact bodyPost_ret (v := .tuple #[.agg #[.slice An g.nodes.length cn, .slice At g.ties.length ct], .iface 122 (.int .i64 5)]) (by simp [results, Tryz.results101, go_sem, k2, k3]) rfl
   ⟨_, _, rfl, (fun h => absurd h (by decide)), ⟨_, _, _, _, _, _, rfl, rfl⟩, ((hB1.mono hB).setCell (p := ⟨w.heap.size + 1 + 1, 0, none⟩) (by show B <= w.heap.size + 1 + 1; omega) _).setCell (p := ⟨w.heap.size + 1 + 1, 1, none⟩) (by show B <= w.heap.size + 1 + 1; omega) _, (((Keep2.below hB1).box (p := ⟨w.heap.size + 1 + 1, 0, none⟩) (by show w.heap.size <= w.heap.size + 1 + 1; omega) _).box (p := ⟨w.heap.size + 1 + 1, 1, none⟩) (by show w.heap.size <= w.heap.size + 1 + 1; omega) _)⟩
 | true =>
  have hE : E = 0 := by rw [HE.out, hq]; rfl
  subst hE
  obtain ⟨d, hd⟩ := fhas_some' hq
  have hkl := (List.getElem?_eq_some_iff.1 hd).1
  obtain ⟨m, hm⟩ : ∃ m, g.nodes.length = m + 1 := ⟨g.nodes.length - 1, by omega⟩
  have hgn : (goneG g id).nodes = g.nodes.take (fpos g.nodes id) ++ g.nodes.drop (fpos g.nodes id + 1) := rfl
  have hgt : (goneG g id).ties = g.ties.filter fun t => !touch id t := rfl
  have hgl : (goneG g id).nodes.length = m := by rw [goneNods_len hkl, hm]; rfl
  have HGT := Lib.hid hgt
  have HGL := Lib.hid hgl
  clear hgt hgl
  have hKi : ((fpos g.nodes id : Nat) : Int) <= 1000 := by omega
  have hn1 := hG1.n
  rw [hm] at hn1
  have hdel := del1_nods w1 B _ m xs hn1 (fpos g.nodes id) (by omega) hG1.o.oneCell (by omega)
  have hdo := hG1.o.drop1 (fpos g.nodes id) hkl
  rw [<- hgn] at hdo
  have hx0 := block_cell m0 0
  have hx1 := block_cell m0 1
  have HG1 := Lib.hid hG1
  have M0 := Lib.hid m0
  have M1 := Lib.hid m1
  have M2 := Lib.hid m2
  have HN1 := Lib.hid hn1
  have HDO := Lib.hid hdo
  rw [hm] at hx0 M0
  rw [hm]
  generalize fpos g.nodes id = K at *
  clear m0 m1 m2 hn1 hG1 hd hkl hq hgn hm hdo
  go_wp2_with fail
  refine hdel.mono ?_
  clear hdel
  rintro e w2 ⟨u2, rfl, ho2, hg2, hu2⟩
  have hsame : ∀ T, 29 ≠ T -> Same T w1 w2 := fun T hT => Same.grown HN1.out hT hg2
  have n0 := hsame 25 (by decide) _ _ _ M0.out
  have n1 := hsame 3 (by decide) _ _ _ M1.out
  have n2 := hsame 25 (by decide) _ _ _ M2.out
  obtain ⟨A2, c2, rfl, _, _⟩ := ho2.form
  have hsb : ∀ T, 25 ≠ T -> Same T w2 (w2.setCell ⟨w.heap.size, 0, none⟩ (.slice A2 m c2)) := fun T hT => Same.setCell (p := ⟨w.heap.size, 0, none⟩) n0 hT _
  have p0 := setCell_block n0 0 (.slice A2 m c2)
  have p1 := hsb 3 (by decide) _ _ _ n1
  have p2 : (w2.setCell ⟨w.heap.size, 0, none⟩ (.slice A2 m c2)).heap[w.heap.size + 1 + 1]? = some (.cells #[.slice none 0 0, .slice none 0 0] 25 (0, 0)) := by rw [Below.heap_setCell _ _ _ _ (by simp; omega)]; exact n2
  have ho3 := ho2.same (hsb _ (by decide))
  have hdo3 := HDO.out.same ((hsame 33 (by decide)).trans (hsb 33 (by decide)))
  have ht3 := HG1.out.t.same ((hsame 35 (by decide)).trans (hsb 35 (by decide)))
  have hB3 : Below B w (w2.setCell ⟨w.heap.size, 0, none⟩ (.slice A2 m c2)) := ((hB1.mono hB).grown hg2 (by omega) (fun j e => (HN1.out.lt j e).1)).setCell (p := ⟨w.heap.size, 0, none⟩) hB _
  have hs3 : (w2.setCell ⟨w.heap.size, 0, none⟩ (.slice A2 m c2)).heap.size = w2.heap.size := by simp [World.setCell]
  have hs2 := hg2.size
  have hK3 : Keep2 w (w2.setCell ⟨w.heap.size, 0, none⟩ (.slice A2 m c2)) (.slice An g.nodes.length cn) (.slice At g.ties.length ct) := ((Keep2.below hB1).grown1' hg2).box (p := ⟨w.heap.size, 0, none⟩) (Nat.le_refl _) _
  have hx2 := block_free n0 0
  have hx3 := block_cell n0 0
  have hx4 := block_cell p0 0
  have hx5 := block_cell p0 1
  have hdt := del_ties_g 156 #[.pointer (some ⟨w.heap.size + 1, 0, none⟩)] (by intro args w; kernel_rfl) (touch id) g.ties _ B (w2.setCell ⟨w.heap.size, 0, none⟩ (.slice A2 m c2)) (by omega) ht3 HG1.out.k ht
   (fun x u wx hgw hu => by
     obtain ⟨rfl, _⟩ := hu
     have := (Same.grown ht3 (by decide) hgw : Same 3 _ _) _ _ _ p1
     exact gone1_any id x (w.heap.size + 1) wx (block_cell this 0))
  rw [<- HGT.out] at hdt
  have P0 := Lib.hid p0
  have P2 := Lib.hid p2
  have HO3 := Lib.hid ho3
  have HDO3 := Lib.hid hdo3
  have HT3 := Lib.hid ht3
  clear ho2 ho3 hdo3 n0 n1 n2 p1 p2 hsame hsb ht3 hg2 HN1 HDO
  go_wp2_with fail
  refine hdt.mono ?_
  clear hdt
  rintro e w4 ⟨u4, rfl, ho4, hg4, hu4⟩
  have hs4 := hg4.size
  have hK4 := hK3.grown2 hg4
  have hs34 : ∀ T, 35 ≠ T -> Same T (w2.setCell ⟨w.heap.size, 0, none⟩ (.slice A2 m c2)) w4 := fun T hT => Same.grown HT3.out hT hg4
  have n0 := hs34 25 (by decide) _ _ _ P0.out
  have n2 := hs34 25 (by decide) _ _ _ P2.out
  obtain ⟨A4, c4, rfl, _, _⟩ := ho4.form
  have p0 := setCell_block n0 1 (.slice A4 (goneG g id).ties.length c4)
  have p2 : (w4.setCell ⟨w.heap.size, 1, none⟩ (.slice A4 (goneG g id).ties.length c4)).heap[w.heap.size + 1 + 1]? = some (.cells #[.slice none 0 0, .slice none 0 0] 25 (0, 0)) := by rw [Below.heap_setCell _ _ _ _ (by simp; omega)]; exact n2
  have p3 := setCell_block p2 0 (.slice A2 m c2)
  have p4 := setCell_block p3 1 (.slice A4 (goneG g id).ties.length c4)
  have HS : Hid (∀ T, 25 ≠ T -> Same T w4 (((w4.setCell ⟨w.heap.size, 1, none⟩ (.slice A4 (goneG g id).ties.length c4)).setCell ⟨w.heap.size + 1 + 1, 0, none⟩ (.slice A2 m c2)).setCell ⟨w.heap.size + 1 + 1, 1, none⟩ (.slice A4 (goneG g id).ties.length c4))) := fun T hT =>
   (Same.setCell (p := ⟨w.heap.size, 1, none⟩) n0 hT _).trans ((Same.setCell (p := ⟨w.heap.size + 1 + 1, 0, none⟩) p2 hT _).trans (Same.setCell (p := ⟨w.heap.size + 1 + 1, 1, none⟩) p3 hT _))
  have HO4 := Lib.hid ho4
  have hB4 : Below B w w4 := hB3.grown hg4 (by omega) (fun j e => (HT3.out.lt j e).1)
  have HFIN : Hid (OwnG (((w4.setCell ⟨w.heap.size, 1, none⟩ (.slice A4 (goneG g id).ties.length c4)).setCell ⟨w.heap.size + 1 + 1, 0, none⟩ (.slice A2 m c2)).setCell ⟨w.heap.size + 1 + 1, 1, none⟩ (.slice A4 (goneG g id).ties.length c4)) B (.slice A2 m c2) (.slice A4 (goneG g id).ties.length c4) (goneG g id) (xs.take (K * 3) ++ xs.drop ((K + 1) * 3))) := by
   refine ⟨?_, HDO3.out.same ((hs34 _ (by decide)).trans (HS.out _ (by decide))), ho4.same (HS.out _ (by decide)), fun x hx => HG1.out.k x ?_⟩
   ·rw [HGL.out]; exact (HO3.out.same (hs34 _ (by decide))).same (HS.out _ (by decide))
   rw [HGT.out] at hx; exact (List.mem_filter.1 hx).1
  have a0 := block_free n0 1
  have a1 := block_cell n0 0
  have a2 := block_cell n0 1
  have a3 := block_cell p0 0
  have a4 := block_cell p0 1
  have a5 := block_free p2 0
  have a6 := block_free p2 1
  have a7 := block_cell p2 0
  have a8 := block_cell p2 1
  have HP4 := Lib.hid p4
  clear ho4 n0 n2 p0 p2 p3 p4 hs34 hg4 HT3 HO3 HDO3
  go_wp2_with fail
  have k2 := block_cell HP4.out 0
  have k3 := block_cell HP4.out 1
  exact bodyPost_ret (v := .tuple #[.agg #[.slice A2 m c2, .slice A4 (goneG g id).ties.length c4], .nilIface]) (by simp [results, Tryz.results101, go_sem, k2, k3]) rfl
   ⟨_, _, rfl, (fun _ => ⟨_, HFIN.out⟩), ⟨_, _, _, _, _, _, rfl, rfl⟩, ((hB4.setCell (p := ⟨w.heap.size, 1, none⟩) hB _).setCell (p := ⟨w.heap.size + 1 + 1, 0, none⟩) (by show B <= w.heap.size + 1 + 1; omega) _).setCell (p := ⟨w.heap.size + 1 + 1, 1, none⟩) (by show B <= w.heap.size + 1 + 1; omega) _, (((hK4.box (p := ⟨w.heap.size, 1, none⟩) (Nat.le_refl _) _).box (p := ⟨w.heap.size + 1 + 1, 0, none⟩) (by show w.heap.size <= w.heap.size + 1 + 1; omega) _).box (p := ⟨w.heap.size + 1 + 1, 1, none⟩) (by show w.heap.size <= w.heap.size + 1 + 1; omega) _)⟩
def tieAgg (t : Tie) : Value := .agg #[.string t.bond, .int .i64 t.src, .int .i64 t.dst]
set_option maxHeartbeats 4000000 in
theorem tfind_any (l : List Tie) (t : Tie) (v : Value) (w : World) (hv : Sl tieL w v l) (hch : chain tieLt l = true) (hlen : l.length <= 1000) :
 Calls Tryz.prog 161 #[v, tieAgg t, .func (.func 99) #[] #[]] w fun e w' => e = .returned (.tuple #[.int .i64 (tpos l t), .bool (thas l t)]) /\ Below w.heap.size w w' := by
 obtain ⟨A, cp, rfl, hlc, hcm⟩ := hv.form
 have hpos : tpos l t <= l.length := lowI_le _ _
 have P1 : Hid (∀ i d, i < tpos l t -> l[i]? = some d -> tieO d t < 0) := fun i d h hi => low_lt (c := tieC t) h hi
 have P2 : Hid (∀ i d, tpos l t <= i -> l[i]? = some d -> 0 <= tieO d t) := fun i d h hi => low_ge (c := tieC t) hch (tieC_mono t) h hi
 have HT : Hid (thas l t = eqAt (tieC t) l (tpos l t)) := rfl
 generalize tpos l t = pos at *
 have hb0 : Below w.heap.size w (w.alloc (.cells #[.string t.bond, .int .i64 t.src, .int .i64 t.dst] 35)) := (Below.refl _ _).alloc (Nat.le_refl _) _
 obtain ⟨z0, z1, z2⟩ := cell_box3 w (.string t.bond) (.int .i64 t.src) (.int .i64 t.dst) 35
 have hv0 := hv.below hb0
 have HV := Lib.hid hv0
 unfold tieAgg
 clear hcm hlc hch hv hv0
 go_enter Tryz.func161, Tryz.ntmps161
 go_wp2_with fail
 generalize hW0 : w.alloc (.cells #[.string t.bond, .int .i64 t.src, .int .i64 t.dst] 35) = w0 at *
 have hw0 := hb0.size
 clear hW0
 go_loopw [9, 10] (fun i j wr => ∃ lo hi : Nat, lo <= pos /\ pos <= hi /\ hi <= l.length /\ i = .int .i64 lo /\ j = .int .i64 hi /\ Below w0.heap.size w0 wr) (fun i j _ => (intOf j).toNat - (intOf i).toNat)
 case atStart => exact ⟨0, l.length, Nat.zero_le _, hpos, Nat.le_refl _, rfl, rfl, Below.refl _ _⟩
 obtain ⟨lo, hi, hlo, hhi, hhl, rfl, rfl, hb⟩ := hrel
 have y0 := cell_below hb z0
 have y1 := cell_below hb z1
 have y2 := cell_below hb z2
 clear z0 z1 z2
 by_cases hlt : lo < hi
 ·obtain ⟨d, hd⟩ : ∃ d, l[(lo + hi) / 2]? = some d := ⟨_, List.getElem?_eq_getElem (by omega)⟩
  have HD : Hid (l[(lo + hi) / 2]? = some d) := hd
  obtain ⟨b, o, rfl, hok, x0, x1, x2⟩ := tie_at (HV.out.below hb) hd
  have hm1 : (lo + hi) / 2 < hi := by omega
  have hm2 : lo <= (lo + hi) / 2 := by omega
  clear hd
  by_cases hc : tieO d t < 0
  ·have hmp : (lo + hi) / 2 < pos := by
    rcases Nat.lt_or_ge ((lo + hi) / 2) pos with h | h
    ·exact h
    have := P2.out _ _ h HD.out; omega
   go_wp2_with fail
   refine wp_mid_k 6 _ rfl rfl (by kernel_rfl) (by kernel_rfl) ?_
   simp only [List.take_succ_cons, List.take_zero, List.drop_succ_cons, List.drop_zero]
   repeat (go_big_quiet_step (fail))
   refine wpQuiet_nil ?_
   intro _ hw'
   obtain ⟨nq, hw''⟩ := hw'
   subst hw''
   intro K hK
   have hcall := order_any d t (wr.drewN nq)
   generalize tieO d t = q at *
   go_wp2_with fail
   refine hcall.mono ?_
   rintro e w3 ⟨rfl, hb3⟩
   have hB3 := (below_drewN hb nq).trans (hb3.mono hb.size)
   clear hcall
   refine hK _ _ ?_
   repeat (go_big_quiet_step (fail))
   refine wpQuiet_nil ?_
   intro _ hw'
   obtain ⟨nq2, hw''⟩ := hw'
   subst hw''
   clear hK
   go_wp2_with fail
   go_roundw
   case rel => exact ⟨(lo + hi) / 2 + 1, hi, by omega, hhi, hhl, by go_num, rfl, below_drewN hB3 _⟩
   case measure => simp [intOf]; omega
  have hmp : pos <= (lo + hi) / 2 := by
   rcases Nat.lt_or_ge ((lo + hi) / 2) pos with h | h
   ·have := P1.out _ _ h HD.out; omega
   exact h
  have hc' : 0 <= tieO d t := by omega
  go_wp2_with fail
  refine wp_mid_k 6 _ rfl rfl (by kernel_rfl) (by kernel_rfl) ?_
  simp only [List.take_succ_cons, List.take_zero, List.drop_succ_cons, List.drop_zero]
  repeat (go_big_quiet_step (fail))
  refine wpQuiet_nil ?_
  intro _ hw'
  obtain ⟨nq, hw''⟩ := hw'
  subst hw''
  intro K hK
  have hcall := order_any d t (wr.drewN nq)
  generalize tieO d t = q at *
  go_wp2_with fail
  refine hcall.mono ?_
  rintro e w3 ⟨rfl, hb3⟩
  have hB3 := (below_drewN hb nq).trans (hb3.mono hb.size)
  clear hcall
  refine hK _ _ ?_
  repeat (go_big_quiet_step (fail))
  refine wpQuiet_nil ?_
  intro _ hw'
  obtain ⟨nq2, hw''⟩ := hw'
  subst hw''
  clear hK
  go_wp2_with fail
  go_roundw
  case rel => exact ⟨lo, (lo + hi) / 2, hlo, by omega, by omega, rfl, by go_num, below_drewN hB3 _⟩
  case measure => simp [intOf]; omega
 obtain rfl : lo = hi := by omega
 obtain rfl : lo = pos := by omega
 by_cases hl : lo < l.length
 ·obtain ⟨d, hd⟩ : ∃ d, l[lo]? = some d := ⟨_, List.getElem?_eq_getElem hl⟩
  have HE : Hid (eqAt (tieC t) l lo = (tieO d t == 0)) := by unfold eqAt; rw [hd]; rfl
  have hl' : (lo : Int) < (l.length : Int) := by omega
  have hl2 : decide ((lo : Int) < (l.length : Int)) = true := by simpa using hl
  obtain ⟨b, o, rfl, hok, x0, x1, x2⟩ := tie_at (HV.out.below hb) hd
  clear hd
  have hkeep := And.intro x0 (And.intro x1 (And.intro x2 (And.intro y0 (And.intro y1 y2))))
  have HO : Hid (∀ W : World, Calls Tryz.prog 99 #[.agg #[.string d.bond, .int .i64 d.src, .int .i64 d.dst], .agg #[.string t.bond, .int .i64 t.src, .int .i64 t.dst]] W fun e w' => e = .returned (.int .i64 (tieO d t)) /\ Below W.heap.size W w') := fun W => order_any d t W
  generalize tieO d t = q at *
  go_wp2_with fail
  go_region_held3 (fun w' => w'.cell? ⟨b, o + lo * 3, none⟩ = some (.string d.bond) /\ w'.cell? ⟨b, o + lo * 3 + 1, none⟩ = some (.int .i64 d.src) /\ w'.cell? ⟨b, o + lo * 3 + 2, none⟩ = some (.int .i64 d.dst) /\ w'.cell? ⟨w.heap.size, 0, none⟩ = some (.string t.bond) /\ w'.cell? ⟨w.heap.size, 1, none⟩ = some (.int .i64 t.src) /\ w'.cell? ⟨w.heap.size, 2, none⟩ = some (.int .i64 t.dst))
   (first
     | exact hkeep
     | go_keep)
   (first
     | (go_at_call 99
        refine (HO.out _).mono ?_
        rintro e w3 ⟨rfl, hb3⟩
        have hkeep := And.intro (cell_below hb3 x0) (And.intro (cell_below hb3 x1) (And.intro (cell_below hb3 x2) (And.intro (cell_below hb3 y0) (And.intro (cell_below hb3 y1) (cell_below hb3 y2)))))))
  all_goals
   go_wp2_with fail
   go_ret2
   exact ⟨by rw [HT.out, HE.out]; rfl, hb0.trans ((hb.trans (((Below.refl wr.heap.size wr).drew.trans hb3).mono hb.size)).mono hw0)⟩
 have HE : Hid (eqAt (tieC t) l lo = false) := by unfold eqAt; rw [List.getElem?_eq_none (by omega)]; rfl
 have hl2 : decide ((lo : Int) < (l.length : Int)) = false := by simp; omega
 have hl3 : (l.length : Int) <= (lo : Int) := by omega
 go_wp2_with fail
 go_quiet (fail)
 go_wp2_with fail
 go_ret2
 exact ⟨by rw [HT.out, HE.out]; rfl, hb0.trans ((below_drewN hb _).mono hw0)⟩
end Go.Proofs.YtngbbefpphinjaaGreatDoor
