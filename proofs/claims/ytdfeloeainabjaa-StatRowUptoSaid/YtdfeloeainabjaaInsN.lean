/- Contracts: slices.Insert at nodes and at ties. -/
import Derived.Test.YtdfeloeainabjaaInsB
import Derived.Test.YtdfeloeainabjaaDeltaP
namespace Go.Proofs.Ytdfeloeainabjaa
open Go Go.RowKit


theorem ins_nod_info : (Try.prog.info? 33).map (fun i => (i.zero, i.size, i.bytes)) = some (some (.agg #[.int .i64 0, .string .empty, .slice none 0 0]), 3, 48) := by kernel_rfl
set_option maxRecDepth 100000 in
set_option maxHeartbeats 8000000 in
theorem ins_nod (w : World) (B : Nat) (v : Value) (n : Nat) (xs : List Value) (hown : Own w B 33 3 v n xs) (i : Nat) (hi : i ≤ n) (vb : Nat) (cs : List Value) (hcl : cs.length = 3)
    (hcs : w.heap[vb]? = some (.cells cs.toArray 33 (0, 0))) (h1 : ∀ u ∈ cs, u.oneCell' = true) (hx1 : ∀ u ∈ xs, u.oneCell' = true) (hne : v.ownBlock ≠ some vb) (hB : B ≤ w.heap.size) (hn : n ≤ 1000000) :
    Calls Try.prog 116 #[v, .int .i64 i, .slice (some ⟨vb, 0, none⟩) 1 1] w (InsR w B 33 3 v n (xs.take (i * 3) ++ cs ++ xs.drop (i * 3))) := by
  obtain ⟨i0, ei, ez, ez1, ez2⟩ := info_parts ins_nod_info
  have hc : ∀ (W : World), W.heap[vb]? = w.heap[vb]? → ∀ j u, cs[j]? = some u → W.cell? ⟨vb, j, none⟩ = some u := fun W hW j u hj => by
    rw [cell_of_row W vb j _ _ _ (hW.trans hcs)]; simpa using hj
  have hlen := hown.1
  by_cases hin : i = n
  · subst hin
    have e1 : xs.take (i * 3) ++ cs ++ xs.drop (i * 3) = xs ++ cs := by rw [← hlen, List.take_length, List.drop_length, List.append_nil]
    rw [e1]
    have H := hown
    rcases hown.2 with ⟨rfl, rfl⟩ | ⟨g, o, cap, cur, rfl, hbg, hg, hnc, hcm, hfit, htk⟩
    · go_enter Try.func116, Try.ntmps116
      go_wp2_with (first
        | (at_builtin; refine wpList_append_q2 _ rfl (.tmp 23) (.tmp 24) 26 26 rfl 33 Try.underlying26 B i0 (.agg #[.int .i64 0, .string .empty, .slice none 0 0]) 3 48 Try.underlying26 ei ez ez1 ez2 rfl (by decide) (.slice none 0 0) 0 xs rfl H (some ⟨vb, 0, none⟩) 1 1 cs rfl (by omega) (fun _ => ⟨_, rfl, fun j u hj => by rw [addr_add, Nat.zero_add]; exact hc w rfl j u hj⟩) h1 (by unfold maxLen; omega) (by omega) hB ?_; intro v7 w7 hown7 hg7 hat7))
      go_ret
      exact ⟨_, rfl, hown7, hg7⟩
    · go_enter Try.func116, Try.ntmps116
      go_wp2_with (first
        | (at_builtin; refine wpList_append_q2 _ rfl (.tmp 23) (.tmp 24) 26 26 rfl 33 Try.underlying26 B i0 (.agg #[.int .i64 0, .string .empty, .slice none 0 0]) 3 48 Try.underlying26 ei ez ez1 ez2 rfl (by decide) (.slice (some ⟨g, o, none⟩) i cap) i xs rfl H (some ⟨vb, 0, none⟩) 1 1 cs rfl (by omega) (fun _ => ⟨_, rfl, fun j u hj => by rw [addr_add, Nat.zero_add]; exact hc w rfl j u hj⟩) h1 (by unfold maxLen; omega) (by omega) hB ?_; intro v7 w7 hown7 hg7 hat7))
      all_goals go_ret
      all_goals exact ⟨_, rfl, hown7, hg7⟩
  · have hlt : i < n := by omega
    rcases hown.2 with ⟨_, h0⟩ | ⟨g, o, cap, cur, rfl, hbg, hg, hnc, hcm, hfit, htk⟩
    · omega
    have hgl : g < w.heap.size := (Array.getElem?_eq_some_iff.1 hg).1
    have hgv : g ≠ vb := fun e => hne (by simp [Value.ownBlock, e])
    have hin' : ¬ ((i : Int) = (n : Int)) := by omega
    have hin2 : decide ((i : Int) = (n : Int)) = false := decide_eq_false hin'
    have hlt' : (i : Int) < (n : Int) := by omega
    have hn' : (n : Int) ≤ 1000000 := by omega
    have hY : Hid (xs.take (i * 3) ++ cs ++ xs.drop (i * 3) = xs.take (i * 3) ++ cs ++ xs.drop (i * 3)) := rfl
    generalize hYY : xs.take (i * 3) ++ cs ++ xs.drop (i * 3) = ys at hY
    by_cases hroom : n + 1 ≤ cap
    · obtain ⟨W1, W2, c1, c2, hfin⟩ := ins_room (P := Try.prog) w B 33 26 26 i0 3 Try.underlying26 ei ez1 (by decide) g o n cap xs hown i hlt vb cs hcl hcs h1 hx1 hgv hroom
      have hap := ins_apart (P := Try.prog) w B 33 26 i0 3 Try.underlying26 ei ez1 (by decide) g o n cap xs hown i hlt vb cs hcl hcs hgv hroom 4
      rw [hYY] at hfin
      rw [show n + 1 - (i + 1) = n - i by omega] at c1
      have C1 := Lib.hid c1
      have C2 := Lib.hid c2
      have HF := Lib.hid hfin
      have HA := Lib.hid hap
      have hr1 : decide ((cap : Int) < (n : Int) + 1) = false := decide_eq_false (by omega)
      have hr2 : ¬ ((cap : Int) < (n : Int) + 1) := by omega
      have hr3 : n + 1 ≤ cap := hroom
      clear c1 c2 hfin hap hown hc h1 hx1 hcs hg hcl htk hlen hYY hY hne ei ez ez1 ez2
      go_enter Try.func116, Try.ntmps116
      go_wp2_with fail
      rw [run_callFunc_extern Try.func144 (by kernel_rfl) (by kernel_rfl) (by kernel_rfl) (e := Extern.SlicesOverlaps.overlaps #[26, 26] #[4]) (by kernel_rfl), HA.out]
      simp only [Result.andThen]
      rw [Oper.upon_value]
      go_wp2_with fail
      refine wp_mid_k 8 _ rfl rfl (by kernel_rfl) (by kernel_rfl) ?_
      simp only [List.take_succ_cons, List.take_zero, List.drop_succ_cons, List.drop_zero]
      repeat (go_big_quiet_step (fail))
      refine wpQuiet_nil ?_
      intro _ hw'
      obtain ⟨nq, hw''⟩ := hw'
      subst hw''
      intro K hK
      refine wp_copy_q _ (.tmp 73) (.tmp 76) _ _ rfl _ _ rfl rfl (C1.out nq _) ?_
      refine hK _ _ ?_
      refine wpQuiet_nil ?_
      intro _ hw'
      obtain ⟨nq2, hw''⟩ := hw'
      subst hw''
      go_wp2_with fail
      rw [C2.out]
      simp only [Result.andThen]
      rw [Oper.upon_value]
      go_wp2_with fail
      go_ret
      exact ⟨_, rfl, (HF.out nq nq2).1, (HF.out nq nq2).2⟩
    · obtain ⟨G, W1, W2, W3, hG, c0, c1, c2, hfin⟩ := ins_grow (P := Try.prog) w B 33 26 26 3 i0 (.agg #[.int .i64 0, .string .empty, .slice none 0 0]) 3 48 Try.underlying26 Try.underlying3 ei ez ez1 ez2 rfl (by decide) (by decide) g o n cap xs hown i hlt hn vb cs hcl hcs h1 hx1 hB (by omega)
      rw [hYY] at hfin
      rw [show n + 1 - (i + 1) = n - i by omega] at c2
      have C0 := Lib.hid c0
      have C1 := Lib.hid c1
      have C2 := Lib.hid c2
      have HF := Lib.hid hfin
      have hr1 : decide ((cap : Int) < (n : Int) + 1) = true := decide_eq_true (by omega)
      have hr2 : (cap : Int) < (n : Int) + 1 := by omega
      have hik : i ≤ n + 1 := by omega
      have hG2 : (n : Int) + 1 ≤ (G : Int) := by omega
      have hi1 : i + 1 ≤ n + 1 := by omega
      clear c0 c1 c2 hfin hown hc h1 hx1 hcs hg hcl htk hlen hYY hY hne ei ez ez1 ez2
      go_enter Try.func116, Try.ntmps116
      go_wp2_with (first
        | (at_builtin; refine wpList_append_z _ rfl (.tmp 34) (.tmp 39) _ _ rfl _ _ rfl rfl (C0.out _) ?_)
        | fail)
      rw [C1.out]
      simp only [Result.andThen]
      rw [Oper.upon_value]
      go_wp2_with fail
      go_frame
      refine wp_mid_k 8 _ rfl rfl (by kernel_rfl) (by kernel_rfl) ?_
      simp only [List.take_succ_cons, List.take_zero, List.drop_succ_cons, List.drop_zero]
      repeat (go_big_quiet_step (fail))
      refine wpQuiet_nil ?_
      intro _ hw'
      obtain ⟨nq, hw''⟩ := hw'
      subst hw''
      intro K hK
      refine wp_copy_q _ (.tmp 50) (.tmp 53) _ _ rfl _ _ rfl rfl (C2.out nq _) ?_
      refine hK _ _ ?_
      refine wpQuiet_nil ?_
      intro _ hw'
      obtain ⟨nq2, hw''⟩ := hw'
      subst hw''
      go_wp2_with fail
      go_ret
      exact ⟨_, rfl, (HF.out nq).1.drewN nq2, ((HF.out nq).2 _).drawnN nq2⟩
theorem ins_tie_info : (Try.prog.info? 35).map (fun i => (i.zero, i.size, i.bytes)) = some (some (.agg #[.string .empty, .int .i64 0, .int .i64 0]), 3, 32) := by kernel_rfl
set_option maxRecDepth 100000 in
set_option maxHeartbeats 8000000 in
theorem ins_tie (w : World) (B : Nat) (v : Value) (n : Nat) (xs : List Value) (hown : Own w B 35 3 v n xs) (i : Nat) (hi : i ≤ n) (vb : Nat) (cs : List Value) (hcl : cs.length = 3)
    (hcs : w.heap[vb]? = some (.cells cs.toArray 35 (0, 0))) (h1 : ∀ u ∈ cs, u.oneCell' = true) (hx1 : ∀ u ∈ xs, u.oneCell' = true) (hne : v.ownBlock ≠ some vb) (hB : B ≤ w.heap.size) (hn : n ≤ 1000000) :
    Calls Try.prog 123 #[v, .int .i64 i, .slice (some ⟨vb, 0, none⟩) 1 1] w (InsR w B 35 3 v n (xs.take (i * 3) ++ cs ++ xs.drop (i * 3))) := by
  obtain ⟨i0, ei, ez, ez1, ez2⟩ := info_parts ins_tie_info
  have hc : ∀ (W : World), W.heap[vb]? = w.heap[vb]? → ∀ j u, cs[j]? = some u → W.cell? ⟨vb, j, none⟩ = some u := fun W hW j u hj => by
    rw [cell_of_row W vb j _ _ _ (hW.trans hcs)]; simpa using hj
  have hlen := hown.1
  by_cases hin : i = n
  · subst hin
    have e1 : xs.take (i * 3) ++ cs ++ xs.drop (i * 3) = xs ++ cs := by rw [← hlen, List.take_length, List.drop_length, List.append_nil]
    rw [e1]
    have H := hown
    rcases hown.2 with ⟨rfl, rfl⟩ | ⟨g, o, cap, cur, rfl, hbg, hg, hnc, hcm, hfit, htk⟩
    · go_enter Try.func123, Try.ntmps123
      go_wp2_with (first
        | (at_builtin; refine wpList_append_q2 _ rfl (.tmp 23) (.tmp 24) 27 27 rfl 35 Try.underlying27 B i0 (.agg #[.string .empty, .int .i64 0, .int .i64 0]) 3 32 Try.underlying27 ei ez ez1 ez2 rfl (by decide) (.slice none 0 0) 0 xs rfl H (some ⟨vb, 0, none⟩) 1 1 cs rfl (by omega) (fun _ => ⟨_, rfl, fun j u hj => by rw [addr_add, Nat.zero_add]; exact hc w rfl j u hj⟩) h1 (by unfold maxLen; omega) (by omega) hB ?_; intro v7 w7 hown7 hg7 hat7))
      go_ret
      exact ⟨_, rfl, hown7, hg7⟩
    · go_enter Try.func123, Try.ntmps123
      go_wp2_with (first
        | (at_builtin; refine wpList_append_q2 _ rfl (.tmp 23) (.tmp 24) 27 27 rfl 35 Try.underlying27 B i0 (.agg #[.string .empty, .int .i64 0, .int .i64 0]) 3 32 Try.underlying27 ei ez ez1 ez2 rfl (by decide) (.slice (some ⟨g, o, none⟩) i cap) i xs rfl H (some ⟨vb, 0, none⟩) 1 1 cs rfl (by omega) (fun _ => ⟨_, rfl, fun j u hj => by rw [addr_add, Nat.zero_add]; exact hc w rfl j u hj⟩) h1 (by unfold maxLen; omega) (by omega) hB ?_; intro v7 w7 hown7 hg7 hat7))
      all_goals go_ret
      all_goals exact ⟨_, rfl, hown7, hg7⟩
  · have hlt : i < n := by omega
    rcases hown.2 with ⟨_, h0⟩ | ⟨g, o, cap, cur, rfl, hbg, hg, hnc, hcm, hfit, htk⟩
    · omega
    have hgl : g < w.heap.size := (Array.getElem?_eq_some_iff.1 hg).1
    have hgv : g ≠ vb := fun e => hne (by simp [Value.ownBlock, e])
    have hin' : ¬ ((i : Int) = (n : Int)) := by omega
    have hin2 : decide ((i : Int) = (n : Int)) = false := decide_eq_false hin'
    have hlt' : (i : Int) < (n : Int) := by omega
    have hn' : (n : Int) ≤ 1000000 := by omega
    have hY : Hid (xs.take (i * 3) ++ cs ++ xs.drop (i * 3) = xs.take (i * 3) ++ cs ++ xs.drop (i * 3)) := rfl
    generalize hYY : xs.take (i * 3) ++ cs ++ xs.drop (i * 3) = ys at hY
    by_cases hroom : n + 1 ≤ cap
    · obtain ⟨W1, W2, c1, c2, hfin⟩ := ins_room (P := Try.prog) w B 35 27 27 i0 3 Try.underlying27 ei ez1 (by decide) g o n cap xs hown i hlt vb cs hcl hcs h1 hx1 hgv hroom
      have hap := ins_apart (P := Try.prog) w B 35 27 i0 3 Try.underlying27 ei ez1 (by decide) g o n cap xs hown i hlt vb cs hcl hcs hgv hroom 4
      rw [hYY] at hfin
      rw [show n + 1 - (i + 1) = n - i by omega] at c1
      have C1 := Lib.hid c1
      have C2 := Lib.hid c2
      have HF := Lib.hid hfin
      have HA := Lib.hid hap
      have hr1 : decide ((cap : Int) < (n : Int) + 1) = false := decide_eq_false (by omega)
      have hr2 : ¬ ((cap : Int) < (n : Int) + 1) := by omega
      have hr3 : n + 1 ≤ cap := hroom
      clear c1 c2 hfin hap hown hc h1 hx1 hcs hg hcl htk hlen hYY hY hne ei ez ez1 ez2
      go_enter Try.func123, Try.ntmps123
      go_wp2_with fail
      rw [run_callFunc_extern Try.func147 (by kernel_rfl) (by kernel_rfl) (by kernel_rfl) (e := Extern.SlicesOverlaps.overlaps #[27, 27] #[4]) (by kernel_rfl), HA.out]
      simp only [Result.andThen]
      rw [Oper.upon_value]
      go_wp2_with fail
      refine wp_mid_k 8 _ rfl rfl (by kernel_rfl) (by kernel_rfl) ?_
      simp only [List.take_succ_cons, List.take_zero, List.drop_succ_cons, List.drop_zero]
      repeat (go_big_quiet_step (fail))
      refine wpQuiet_nil ?_
      intro _ hw'
      obtain ⟨nq, hw''⟩ := hw'
      subst hw''
      intro K hK
      refine wp_copy_q _ (.tmp 73) (.tmp 76) _ _ rfl _ _ rfl rfl (C1.out nq _) ?_
      refine hK _ _ ?_
      refine wpQuiet_nil ?_
      intro _ hw'
      obtain ⟨nq2, hw''⟩ := hw'
      subst hw''
      go_wp2_with fail
      rw [C2.out]
      simp only [Result.andThen]
      rw [Oper.upon_value]
      go_wp2_with fail
      go_ret
      exact ⟨_, rfl, (HF.out nq nq2).1, (HF.out nq nq2).2⟩
    · obtain ⟨G, W1, W2, W3, hG, c0, c1, c2, hfin⟩ := ins_grow (P := Try.prog) w B 35 27 27 3 i0 (.agg #[.string .empty, .int .i64 0, .int .i64 0]) 3 32 Try.underlying27 Try.underlying3 ei ez ez1 ez2 rfl (by decide) (by decide) g o n cap xs hown i hlt hn vb cs hcl hcs h1 hx1 hB (by omega)
      rw [hYY] at hfin
      rw [show n + 1 - (i + 1) = n - i by omega] at c2
      have C0 := Lib.hid c0
      have C1 := Lib.hid c1
      have C2 := Lib.hid c2
      have HF := Lib.hid hfin
      have hr1 : decide ((cap : Int) < (n : Int) + 1) = true := decide_eq_true (by omega)
      have hr2 : (cap : Int) < (n : Int) + 1 := by omega
      have hik : i ≤ n + 1 := by omega
      have hG2 : (n : Int) + 1 ≤ (G : Int) := by omega
      have hi1 : i + 1 ≤ n + 1 := by omega
      clear c0 c1 c2 hfin hown hc h1 hx1 hcs hg hcl htk hlen hYY hY hne ei ez ez1 ez2
      go_enter Try.func123, Try.ntmps123
      go_wp2_with (first
        | (at_builtin; refine wpList_append_z _ rfl (.tmp 34) (.tmp 39) _ _ rfl _ _ rfl rfl (C0.out _) ?_)
        | fail)
      rw [C1.out]
      simp only [Result.andThen]
      rw [Oper.upon_value]
      go_wp2_with fail
      go_frame
      refine wp_mid_k 8 _ rfl rfl (by kernel_rfl) (by kernel_rfl) ?_
      simp only [List.take_succ_cons, List.take_zero, List.drop_succ_cons, List.drop_zero]
      repeat (go_big_quiet_step (fail))
      refine wpQuiet_nil ?_
      intro _ hw'
      obtain ⟨nq, hw''⟩ := hw'
      subst hw''
      intro K hK
      refine wp_copy_q _ (.tmp 50) (.tmp 53) _ _ rfl _ _ rfl rfl (C2.out nq _) ?_
      refine hK _ _ ?_
      refine wpQuiet_nil ?_
      intro _ hw'
      obtain ⟨nq2, hw''⟩ := hw'
      subst hw''
      go_wp2_with fail
      go_ret
      exact ⟨_, rfl, (HF.out nq).1.drewN nq2, ((HF.out nq).2 _).drawnN nq2⟩
end Go.Proofs.Ytdfeloeainabjaa
