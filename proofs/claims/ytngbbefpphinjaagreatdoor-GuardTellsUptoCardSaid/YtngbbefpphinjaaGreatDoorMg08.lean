/- Parts: InsN, DelTie, DelBorn. -/
import Derived.Test.YtngbbefpphinjaaGreatDoorMg05
import Derived.Test.YtngbbefpphinjaaGreatDoorMg06
import Derived.Test.YtngbbefpphinjaaGreatDoorMg07
/- Contracts: slices.Insert at nodes and at ties. -/
namespace Go.Proofs.YtngbbefpphinjaaGreatDoor
open Go Go.RowKit
theorem ins_nod_info : (Tryz.prog.info? 29).map (fun i => (i.zero, i.size, i.bytes)) = some (some (.agg #[.int .i64 0, .string .empty, .slice none 0 0]), 3, 48) := by kernel_rfl
set_option maxRecDepth 100000 in
set_option maxHeartbeats 8000000 in
theorem ins_nod_at (w : World) (B : Nat) (v : Value) (n : Nat) (xs : List Value) (hown : Own w B 29 3 v n xs) (i : Nat) (hi : i <= n) (vb : Nat) (cs : List Value) (hcl : cs.length = 3)
 (hcs : w.heap[vb]? = some (.cells cs.toArray 29 (0, 0))) (h1 : ∀ u ∈ cs, u.oneCell' = true) (hx1 : ∀ u ∈ xs, u.oneCell' = true) (hne : v.ownBlock ≠ some vb) (hB : B <= w.heap.size) (hn : n <= 1000000) :
 Calls Tryz.prog 153 #[v, .int .i64 i, .slice (some ⟨vb, 0, none⟩) 1 1] w (InsRA w B 29 3 v n (xs.take (i * 3) ++ cs ++ xs.drop (i * 3))) := by
 obtain ⟨i0, ei, ez, ez1, ez2⟩ := info_parts ins_nod_info
 have hc : ∀ (W : World), W.heap[vb]? = w.heap[vb]? -> ∀ j u, cs[j]? = some u -> W.cell? ⟨vb, j, none⟩ = some u := fun W hW j u hj => by
  rw [cell_of_row W vb j _ _ _ (hW.trans hcs)]; simpa using hj
 have hlen := hown.1
 by_cases hin : i = n
 ·subst hin
  have e1 : xs.take (i * 3) ++ cs ++ xs.drop (i * 3) = xs ++ cs := by rw [<- hlen, List.take_length, List.drop_length, List.append_nil]
  rw [e1]
  have H := hown
  rcases hown.2 with ⟨rfl, rfl⟩ | ⟨g, o, cap, cur, rfl, hbg, hg, hnc, hcm, hfit, htk⟩
  ·go_enter Tryz.func153, Tryz.ntmps153
   go_wp2_with (first
    | (at_builtin; refine wpList_append_q2 _ rfl (.tmp 23) (.tmp 24) 22 22 rfl 29 Tryz.underlying22 B i0 (.agg #[.int .i64 0, .string .empty, .slice none 0 0]) 3 48 Tryz.underlying22 ei ez ez1 ez2 rfl (by decide) (.slice none 0 0) 0 xs rfl H (some ⟨vb, 0, none⟩) 1 1 cs rfl (by omega) (fun _ => ⟨_, rfl, fun j u hj => by rw [addr_add, Nat.zero_add]; exact hc w rfl j u hj⟩) h1 (by unfold maxLen; omega) (by omega) hB ?_; intro v7 w7 hown7 hg7 hat7))
   go_ret
   exact ⟨_, rfl, hown7, hg7, at_new hat7⟩
  go_enter Tryz.func153, Tryz.ntmps153
  go_wp2_with (first
   | (at_builtin; refine wpList_append_q2 _ rfl (.tmp 23) (.tmp 24) 22 22 rfl 29 Tryz.underlying22 B i0 (.agg #[.int .i64 0, .string .empty, .slice none 0 0]) 3 48 Tryz.underlying22 ei ez ez1 ez2 rfl (by decide) (.slice (some ⟨g, o, none⟩) i cap) i xs rfl H (some ⟨vb, 0, none⟩) 1 1 cs rfl (by omega) (fun _ => ⟨_, rfl, fun j u hj => by rw [addr_add, Nat.zero_add]; exact hc w rfl j u hj⟩) h1 (by unfold maxLen; omega) (by omega) hB ?_; intro v7 w7 hown7 hg7 hat7))
  all_goals go_ret
  all_goals exact ⟨_, rfl, hown7, hg7, at_new hat7⟩
 have hlt : i < n := by omega
 rcases hown.2 with ⟨_, h0⟩ | ⟨g, o, cap, cur, rfl, hbg, hg, hnc, hcm, hfit, htk⟩
 ·omega
 have hgl : g < w.heap.size := (geB hg)
 have hgv : g ≠ vb := fun e => hne (by simp [Value.ownBlock, e])
 have hin' : ¬ ((i : Int) = (n : Int)) := by omega
 have hin2 : decide ((i : Int) = (n : Int)) = false := decide_eq_false hin'
 have hlt' : (i : Int) < (n : Int) := by omega
 have hn' : (n : Int) <= 1000000 := by omega
 have hY : Hid (xs.take (i * 3) ++ cs ++ xs.drop (i * 3) = xs.take (i * 3) ++ cs ++ xs.drop (i * 3)) := rfl
 generalize hYY : xs.take (i * 3) ++ cs ++ xs.drop (i * 3) = ys at hY
 by_cases hroom : n + 1 <= cap
 ·obtain ⟨W1, W2, c1, c2, hfin⟩ := ins_room (P := Tryz.prog) w B 29 22 22 i0 3 Tryz.underlying22 ei ez1 (by decide) g o n cap xs hown i hlt vb cs hcl hcs h1 hx1 hgv hroom
  have hap := ins_apart (P := Tryz.prog) w B 29 22 i0 3 Tryz.underlying22 ei ez1 (by decide) g o n cap xs hown i hlt vb cs hcl hcs hgv hroom 4
  rw [hYY] at hfin
  rw [show n + 1 - (i + 1) = n - i by omega] at c1
  have C1 := Lib.hid c1
  have C2 := Lib.hid c2
  have HF := Lib.hid hfin
  have HA := Lib.hid hap
  have hr1 : decide ((cap : Int) < (n : Int) + 1) = false := decide_eq_false (by omega)
  have hr2 : ¬ ((cap : Int) < (n : Int) + 1) := by omega
  have hr3 : n + 1 <= cap := hroom
  clear c1 c2 hfin hap hown hc h1 hx1 hcs hg hcl htk hlen hYY hY hne ei ez ez1 ez2
  go_enter Tryz.func153, Tryz.ntmps153
  go_wp2_with fail
  rw [run_callFunc_extern Tryz.func198 (by kernel_rfl) (by kernel_rfl) (by kernel_rfl) (e := Extern.SlicesOverlaps.overlaps #[22, 22] #[4]) (by kernel_rfl), HA.out]
  simp only [Result.andThen]
  rw [Oper.upon_value]
  go_wp2_with fail
  refine wp_mid_k 8 _ rfl rfl (by kernel_rfl) (by kernel_rfl) ?_
  simp only [List.take_succ_cons, List.take_zero, List.drop_succ_cons, List.drop_zero]
  repeat (go_big_quiet_step (fail))
  refine wpQuiet_nil ?_
  intro _ hw'
  obtain ⟨nq, hw''⟩ := hw'
  subst hw''
  intro K hK
  refine wp_copy_q _ (.tmp 73) (.tmp 76) _ _ rfl _ _ rfl rfl (C1.out nq _) ?_
  refine hK _ _ ?_
  refine wpQuiet_nil ?_
  intro _ hw'
  obtain ⟨nq2, hw''⟩ := hw'
  subst hw''
  go_wp2_with fail
  rw [C2.out]
  simp only [Result.andThen]
  rw [Oper.upon_value]
  go_wp2_with fail
  go_ret
  exact ⟨_, rfl, (HF.out nq nq2).1, (HF.out nq nq2).2, .inl rfl⟩
 obtain ⟨G, W1, W2, W3, hG, c0, c1, c2, hfin⟩ := ins_grow (P := Tryz.prog) w B 29 22 22 3 i0 (.agg #[.int .i64 0, .string .empty, .slice none 0 0]) 3 48 Tryz.underlying22 Tryz.underlying3 ei ez ez1 ez2 rfl (by decide) (by decide) g o n cap xs hown i hlt hn vb cs hcl hcs h1 hx1 hB (by omega)
 rw [hYY] at hfin
 rw [show n + 1 - (i + 1) = n - i by omega] at c2
 have C0 := Lib.hid c0
 have C1 := Lib.hid c1
 have C2 := Lib.hid c2
 have HF := Lib.hid hfin
 have hr1 : decide ((cap : Int) < (n : Int) + 1) = true := decide_eq_true (by omega)
 have hr2 : (cap : Int) < (n : Int) + 1 := by omega
 have hik : i <= n + 1 := by omega
 have hG2 : (n : Int) + 1 <= (G : Int) := by omega
 have hi1 : i + 1 <= n + 1 := by omega
 clear c0 c1 c2 hfin hown hc h1 hx1 hcs hg hcl htk hlen hYY hY hne ei ez ez1 ez2
 go_enter Tryz.func153, Tryz.ntmps153
 go_wp2_with (first
  | (at_builtin; refine wpList_append_z _ rfl (.tmp 34) (.tmp 39) _ _ rfl _ _ rfl rfl (C0.out _) ?_)
  | fail)
 rw [C1.out]
 simp only [Result.andThen]
 rw [Oper.upon_value]
 go_wp2_with fail
 go_frame
 refine wp_mid_k 8 _ rfl rfl (by kernel_rfl) (by kernel_rfl) ?_
 simp only [List.take_succ_cons, List.take_zero, List.drop_succ_cons, List.drop_zero]
 repeat (go_big_quiet_step (fail))
 refine wpQuiet_nil ?_
 intro _ hw'
 obtain ⟨nq, hw''⟩ := hw'
 subst hw''
 intro K hK
 refine wp_copy_q _ (.tmp 50) (.tmp 53) _ _ rfl _ _ rfl rfl (C2.out nq _) ?_
 refine hK _ _ ?_
 refine wpQuiet_nil ?_
 intro _ hw'
 obtain ⟨nq2, hw''⟩ := hw'
 subst hw''
 go_wp2_with fail
 go_ret
 exact ⟨_, rfl, (HF.out nq).1.drewN nq2, ((HF.out nq).2 _).drawnN nq2, .inr ⟨w.heap.size, rfl, Nat.le_refl _⟩⟩
theorem ins_nod (w : World) (B : Nat) (v : Value) (n : Nat) (xs : List Value) (hown : Own w B 29 3 v n xs) (i : Nat) (hi : i <= n) (vb : Nat) (cs : List Value) (hcl : cs.length = 3)
 (hcs : w.heap[vb]? = some (.cells cs.toArray 29 (0, 0))) (h1 : ∀ u ∈ cs, u.oneCell' = true) (hx1 : ∀ u ∈ xs, u.oneCell' = true) (hne : v.ownBlock ≠ some vb) (hB : B <= w.heap.size) (hn : n <= 1000000) :
 Calls Tryz.prog 153 #[v, .int .i64 i, .slice (some ⟨vb, 0, none⟩) 1 1] w (InsR w B 29 3 v n (xs.take (i * 3) ++ cs ++ xs.drop (i * 3))) :=
 (ins_nod_at w B v n xs hown i hi vb cs hcl hcs h1 hx1 hne hB hn).mono fun _ _ h => h.r
theorem ins_tie_info : (Tryz.prog.info? 35).map (fun i => (i.zero, i.size, i.bytes)) = some (some (.agg #[.string .empty, .int .i64 0, .int .i64 0]), 3, 32) := by kernel_rfl
set_option maxRecDepth 100000 in
set_option maxHeartbeats 8000000 in
theorem ins_tie_at (w : World) (B : Nat) (v : Value) (n : Nat) (xs : List Value) (hown : Own w B 35 3 v n xs) (i : Nat) (hi : i <= n) (vb : Nat) (cs : List Value) (hcl : cs.length = 3)
 (hcs : w.heap[vb]? = some (.cells cs.toArray 35 (0, 0))) (h1 : ∀ u ∈ cs, u.oneCell' = true) (hx1 : ∀ u ∈ xs, u.oneCell' = true) (hne : v.ownBlock ≠ some vb) (hB : B <= w.heap.size) (hn : n <= 1000000) :
 Calls Tryz.prog 163 #[v, .int .i64 i, .slice (some ⟨vb, 0, none⟩) 1 1] w (InsRA w B 35 3 v n (xs.take (i * 3) ++ cs ++ xs.drop (i * 3))) := by
 obtain ⟨i0, ei, ez, ez1, ez2⟩ := info_parts ins_tie_info
 have hc : ∀ (W : World), W.heap[vb]? = w.heap[vb]? -> ∀ j u, cs[j]? = some u -> W.cell? ⟨vb, j, none⟩ = some u := fun W hW j u hj => by
  rw [cell_of_row W vb j _ _ _ (hW.trans hcs)]; simpa using hj
 have hlen := hown.1
 by_cases hin : i = n
 ·subst hin
  have e1 : xs.take (i * 3) ++ cs ++ xs.drop (i * 3) = xs ++ cs := by rw [<- hlen, List.take_length, List.drop_length, List.append_nil]
  rw [e1]
  have H := hown
  rcases hown.2 with ⟨rfl, rfl⟩ | ⟨g, o, cap, cur, rfl, hbg, hg, hnc, hcm, hfit, htk⟩
  ·go_enter Tryz.func163, Tryz.ntmps163
   go_wp2_with (first
    | (at_builtin; refine wpList_append_q2 _ rfl (.tmp 23) (.tmp 24) 23 23 rfl 35 Tryz.underlying23 B i0 (.agg #[.string .empty, .int .i64 0, .int .i64 0]) 3 32 Tryz.underlying23 ei ez ez1 ez2 rfl (by decide) (.slice none 0 0) 0 xs rfl H (some ⟨vb, 0, none⟩) 1 1 cs rfl (by omega) (fun _ => ⟨_, rfl, fun j u hj => by rw [addr_add, Nat.zero_add]; exact hc w rfl j u hj⟩) h1 (by unfold maxLen; omega) (by omega) hB ?_; intro v7 w7 hown7 hg7 hat7))
   go_ret
   exact ⟨_, rfl, hown7, hg7, at_new hat7⟩
  go_enter Tryz.func163, Tryz.ntmps163
  go_wp2_with (first
   | (at_builtin; refine wpList_append_q2 _ rfl (.tmp 23) (.tmp 24) 23 23 rfl 35 Tryz.underlying23 B i0 (.agg #[.string .empty, .int .i64 0, .int .i64 0]) 3 32 Tryz.underlying23 ei ez ez1 ez2 rfl (by decide) (.slice (some ⟨g, o, none⟩) i cap) i xs rfl H (some ⟨vb, 0, none⟩) 1 1 cs rfl (by omega) (fun _ => ⟨_, rfl, fun j u hj => by rw [addr_add, Nat.zero_add]; exact hc w rfl j u hj⟩) h1 (by unfold maxLen; omega) (by omega) hB ?_; intro v7 w7 hown7 hg7 hat7))
  all_goals go_ret
  all_goals exact ⟨_, rfl, hown7, hg7, at_new hat7⟩
 have hlt : i < n := by omega
 rcases hown.2 with ⟨_, h0⟩ | ⟨g, o, cap, cur, rfl, hbg, hg, hnc, hcm, hfit, htk⟩
 ·omega
 have hgl : g < w.heap.size := (geB hg)
 have hgv : g ≠ vb := fun e => hne (by simp [Value.ownBlock, e])
 have hin' : ¬ ((i : Int) = (n : Int)) := by omega
 have hin2 : decide ((i : Int) = (n : Int)) = false := decide_eq_false hin'
 have hlt' : (i : Int) < (n : Int) := by omega
 have hn' : (n : Int) <= 1000000 := by omega
 have hY : Hid (xs.take (i * 3) ++ cs ++ xs.drop (i * 3) = xs.take (i * 3) ++ cs ++ xs.drop (i * 3)) := rfl
 generalize hYY : xs.take (i * 3) ++ cs ++ xs.drop (i * 3) = ys at hY
 by_cases hroom : n + 1 <= cap
 ·obtain ⟨W1, W2, c1, c2, hfin⟩ := ins_room (P := Tryz.prog) w B 35 23 23 i0 3 Tryz.underlying23 ei ez1 (by decide) g o n cap xs hown i hlt vb cs hcl hcs h1 hx1 hgv hroom
  have hap := ins_apart (P := Tryz.prog) w B 35 23 i0 3 Tryz.underlying23 ei ez1 (by decide) g o n cap xs hown i hlt vb cs hcl hcs hgv hroom 4
  rw [hYY] at hfin
  rw [show n + 1 - (i + 1) = n - i by omega] at c1
  have C1 := Lib.hid c1
  have C2 := Lib.hid c2
  have HF := Lib.hid hfin
  have HA := Lib.hid hap
  have hr1 : decide ((cap : Int) < (n : Int) + 1) = false := decide_eq_false (by omega)
  have hr2 : ¬ ((cap : Int) < (n : Int) + 1) := by omega
  have hr3 : n + 1 <= cap := hroom
  clear c1 c2 hfin hap hown hc h1 hx1 hcs hg hcl htk hlen hYY hY hne ei ez ez1 ez2
  go_enter Tryz.func163, Tryz.ntmps163
  go_wp2_with fail
  rw [run_callFunc_extern Tryz.func203 (by kernel_rfl) (by kernel_rfl) (by kernel_rfl) (e := Extern.SlicesOverlaps.overlaps #[23, 23] #[4]) (by kernel_rfl), HA.out]
  simp only [Result.andThen]
  rw [Oper.upon_value]
  go_wp2_with fail
  refine wp_mid_k 8 _ rfl rfl (by kernel_rfl) (by kernel_rfl) ?_
  simp only [List.take_succ_cons, List.take_zero, List.drop_succ_cons, List.drop_zero]
  repeat (go_big_quiet_step (fail))
  refine wpQuiet_nil ?_
  intro _ hw'
  obtain ⟨nq, hw''⟩ := hw'
  subst hw''
  intro K hK
  refine wp_copy_q _ (.tmp 73) (.tmp 76) _ _ rfl _ _ rfl rfl (C1.out nq _) ?_
  refine hK _ _ ?_
  refine wpQuiet_nil ?_
  intro _ hw'
  obtain ⟨nq2, hw''⟩ := hw'
  subst hw''
  go_wp2_with fail
  rw [C2.out]
  simp only [Result.andThen]
  rw [Oper.upon_value]
  go_wp2_with fail
  go_ret
  exact ⟨_, rfl, (HF.out nq nq2).1, (HF.out nq nq2).2, .inl rfl⟩
 obtain ⟨G, W1, W2, W3, hG, c0, c1, c2, hfin⟩ := ins_grow (P := Tryz.prog) w B 35 23 23 3 i0 (.agg #[.string .empty, .int .i64 0, .int .i64 0]) 3 32 Tryz.underlying23 Tryz.underlying3 ei ez ez1 ez2 rfl (by decide) (by decide) g o n cap xs hown i hlt hn vb cs hcl hcs h1 hx1 hB (by omega)
 rw [hYY] at hfin
 rw [show n + 1 - (i + 1) = n - i by omega] at c2
 have C0 := Lib.hid c0
 have C1 := Lib.hid c1
 have C2 := Lib.hid c2
 have HF := Lib.hid hfin
 have hr1 : decide ((cap : Int) < (n : Int) + 1) = true := decide_eq_true (by omega)
 have hr2 : (cap : Int) < (n : Int) + 1 := by omega
 have hik : i <= n + 1 := by omega
 have hG2 : (n : Int) + 1 <= (G : Int) := by omega
 have hi1 : i + 1 <= n + 1 := by omega
 clear c0 c1 c2 hfin hown hc h1 hx1 hcs hg hcl htk hlen hYY hY hne ei ez ez1 ez2
 go_enter Tryz.func163, Tryz.ntmps163
 go_wp2_with (first
  | (at_builtin; refine wpList_append_z _ rfl (.tmp 34) (.tmp 39) _ _ rfl _ _ rfl rfl (C0.out _) ?_)
  | fail)
 rw [C1.out]
 simp only [Result.andThen]
 rw [Oper.upon_value]
 go_wp2_with fail
 go_frame
 refine wp_mid_k 8 _ rfl rfl (by kernel_rfl) (by kernel_rfl) ?_
 simp only [List.take_succ_cons, List.take_zero, List.drop_succ_cons, List.drop_zero]
 repeat (go_big_quiet_step (fail))
 refine wpQuiet_nil ?_
 intro _ hw'
 obtain ⟨nq, hw''⟩ := hw'
 subst hw''
 intro K hK
 refine wp_copy_q _ (.tmp 50) (.tmp 53) _ _ rfl _ _ rfl rfl (C2.out nq _) ?_
 refine hK _ _ ?_
 refine wpQuiet_nil ?_
 intro _ hw'
 obtain ⟨nq2, hw''⟩ := hw'
 subst hw''
 go_wp2_with fail
 go_ret
 exact ⟨_, rfl, (HF.out nq).1.drewN nq2, ((HF.out nq).2 _).drawnN nq2, .inr ⟨w.heap.size, rfl, Nat.le_refl _⟩⟩
theorem ins_tie (w : World) (B : Nat) (v : Value) (n : Nat) (xs : List Value) (hown : Own w B 35 3 v n xs) (i : Nat) (hi : i <= n) (vb : Nat) (cs : List Value) (hcl : cs.length = 3)
 (hcs : w.heap[vb]? = some (.cells cs.toArray 35 (0, 0))) (h1 : ∀ u ∈ cs, u.oneCell' = true) (hx1 : ∀ u ∈ xs, u.oneCell' = true) (hne : v.ownBlock ≠ some vb) (hB : B <= w.heap.size) (hn : n <= 1000000) :
 Calls Tryz.prog 163 #[v, .int .i64 i, .slice (some ⟨vb, 0, none⟩) 1 1] w (InsR w B 35 3 v n (xs.take (i * 3) ++ cs ++ xs.drop (i * 3))) :=
 (ins_tie_at w B v n xs hown i hi vb cs hcl hcs h1 hx1 hne hB hn).mono fun _ _ h => h.r
theorem thas_some {l : List Tie} {t : Tie} (h : thas l t = true) : ∃ n, l[tpos l t]? = some n := by
 unfold thas eqAt at h
 cases hd : l[tpos l t]? with
 | none => rw [hd] at h; simp at h
 | some d => exact ⟨d, rfl⟩
def bindE (g : Grf) (t : Tie) : Int := if tieE t = 0 then (if thas g.ties t then 7 else if 120 <= g.ties.length then 4 else 0) else tieE t
def tieErr (g : Grf) (t : Tie) (more : Bool) : Int := if more then bindE g t else if thas g.ties t then 0 else 5
def bindG (g : Grf) (t : Tie) : Grf := ⟨g.nodes, g.ties.take (tpos g.ties t) ++ t :: g.ties.drop (tpos g.ties t)⟩
def looseG (g : Grf) (t : Tie) : Grf := ⟨g.nodes, g.ties.take (tpos g.ties t) ++ g.ties.drop (tpos g.ties t + 1)⟩
def tieG (g : Grf) (t : Tie) (more : Bool) : Grf := if more then bindG g t else looseG g t
set_option maxRecDepth 100000 in
set_option maxHeartbeats 8000000 in
theorem tie_any (g : Grf) (t : Tie) (more : Bool) (vn vt : Value) (xs : List Value) (B : Nat) (w : World) (hB : B <= w.heap.size) (hG : OwnG w B vn vt g xs) (hc : chain tieLt g.ties = true) (ht : g.ties.length <= 1000) (hok : t.ok) :
 Calls Tryz.prog 107 #[.agg #[vn, vt], .agg #[.string t.bond, .int .i64 t.src, .int .i64 t.dst], .bool more] w (RetOG B vn vt (tieG g t more) (tieErr g t more) w) := by
 obtain ⟨An, cn, rfl, _, _⟩ := hG.n.form
 obtain ⟨At, ct, rfl, _, _⟩ := hG.t.form
 have hb0 : Below w.heap.size w (((w.alloc (.cells #[.slice An g.nodes.length cn, .slice At g.ties.length ct] 25)).alloc (.cells #[.string t.bond, .int .i64 t.src, .int .i64 t.dst] 35)).alloc (.cells #[.slice none 0 0, .slice none 0 0] 25)) := (((Below.refl _ _).alloc (Nat.le_refl _) _).alloc (by simp) _).alloc (by simp; omega) _
 have g0 : (((w.alloc (.cells #[.slice An g.nodes.length cn, .slice At g.ties.length ct] 25)).alloc (.cells #[.string t.bond, .int .i64 t.src, .int .i64 t.dst] 35)).alloc (.cells #[.slice none 0 0, .slice none 0 0] 25)).heap[w.heap.size]? = some (.cells #[.slice An g.nodes.length cn, .slice At g.ties.length ct] 25 (0, 0)) := by
  rw [Below.heap_alloc _ _ _ (by simp; omega), Below.heap_alloc _ _ _ (by simp)]; exact heap_alloc_new _ _
 have g1 : (((w.alloc (.cells #[.slice An g.nodes.length cn, .slice At g.ties.length ct] 25)).alloc (.cells #[.string t.bond, .int .i64 t.src, .int .i64 t.dst] 35)).alloc (.cells #[.slice none 0 0, .slice none 0 0] 25)).heap[w.heap.size + 1]? = some (.cells #[.string t.bond, .int .i64 t.src, .int .i64 t.dst] 35 (0, 0)) := by
  rw [Below.heap_alloc _ _ _ (by simp)]
  have := heap_alloc_new (w.alloc (.cells #[.slice An g.nodes.length cn, .slice At g.ties.length ct] 25)) (.cells #[.string t.bond, .int .i64 t.src, .int .i64 t.dst] 35); simpa using this
 have g2 : (((w.alloc (.cells #[.slice An g.nodes.length cn, .slice At g.ties.length ct] 25)).alloc (.cells #[.string t.bond, .int .i64 t.src, .int .i64 t.dst] 35)).alloc (.cells #[.slice none 0 0, .slice none 0 0] 25)).heap[w.heap.size + 1 + 1]? = some (.cells #[.slice none 0 0, .slice none 0 0] 25 (0, 0)) := by
  have := heap_alloc_new ((w.alloc (.cells #[.slice An g.nodes.length cn, .slice At g.ties.length ct] 25)).alloc (.cells #[.string t.bond, .int .i64 t.src, .int .i64 t.dst] 35)) (.cells #[.slice none 0 0, .slice none 0 0] 25); simpa using this
 have hsz : (((w.alloc (.cells #[.slice An g.nodes.length cn, .slice At g.ties.length ct] 25)).alloc (.cells #[.string t.bond, .int .i64 t.src, .int .i64 t.dst] 35)).alloc (.cells #[.slice none 0 0, .slice none 0 0] 25)).heap.size = w.heap.size + 3 := by simp
 generalize hW0 : (((w.alloc (.cells #[.slice An g.nodes.length cn, .slice At g.ties.length ct] 25)).alloc (.cells #[.string t.bond, .int .i64 t.src, .int .i64 t.dst] 35)).alloc (.cells #[.slice none 0 0, .slice none 0 0] 25)) = W0 at *
 have hG0 := hG.below hb0
 have hf := tfind_any g.ties t _ W0 (hG0.r.2) hc ht
 unfold tieAgg at hf
 have x0 := block_cell g0 0
 have x1 := block_cell g0 1
 have y0 := block_cell g1 0
 have y1 := block_cell g1 1
 have y2 := block_cell g1 2
 have HG := Lib.hid hG0
 have HW0 := Lib.hid hW0
 clear hG hG0
 obtain ⟨E, hE⟩ : ∃ E : Int, E = tieErr g t more := ⟨_, rfl⟩
 obtain ⟨G', hG'⟩ : ∃ G' : Grf, G' = tieG g t more := ⟨_, rfl⟩
 rw [<- hE, <- hG']
 have HE := Lib.hid hE
 have HG' := Lib.hid hG'
 have HT : Hid (tieE t = tieE t) := rfl
 clear hE hG'
 go_enter Tryz.func107, Tryz.ntmps107
 go_wp2_with fail
 refine hf.mono ?_
 clear hf
 rintro e w1 ⟨rfl, hb1⟩
 have hB1 := hb0.trans (hb1.mono hb0.size)
 have m0 := (hb1.block _ (geB g0)).trans g0
 have m1 := (hb1.block _ (geB g1)).trans g1
 have m2 := (hb1.block _ (geB g2)).trans g2
 have hG1 := HG.out.below hb1
 have hs1 := hb1.size
 have HP : Hid (bindE g t = if tieE t = 0 then (if thas g.ties t then 7 else if 120 <= g.ties.length then 4 else 0) else tieE t) := rfl
 have HTS : Hid (thas g.ties t = true -> ∃ n, g.ties[tpos g.ties t]? = some n) := thas_some
 have HBG : Hid (bindG g t = ⟨g.nodes, g.ties.take (tpos g.ties t) ++ t :: g.ties.drop (tpos g.ties t)⟩) := rfl
 have HLG : Hid (looseG g t = ⟨g.nodes, g.ties.take (tpos g.ties t) ++ g.ties.drop (tpos g.ties t + 1)⟩) := rfl
 have hKl : tpos g.ties t <= g.ties.length := lowI_le _ _
 have HLS : Hid (tieErr g t false = if thas g.ties t then 0 else 5) := rfl
 have HTB : Hid (tieErr g t true = bindE g t) := rfl
 generalize thas g.ties t = q at *
 generalize tpos g.ties t = K at *
 clear g0 g1 g2 x0 x1 y0 y1 y2 HG
 cases more with
 | false =>
  cases q with
  | false =>
   have hE : E = 5 := by rw [HE.out, HLS.out]; rfl
   have HEE : Hid (errV E = .iface 122 (.int .i64 5)) := by unfold Hid; rw [hE]; rfl
   have x0 := block_cell m0 0
   have x1 := block_cell m0 1
   have e0 := block_free m2 0
   have e1 := block_free m2 1
   have e2 := block_cell m2 0
   have e3 := block_cell m2 1
   have k3 := setCell_block (setCell_block m2 0 (.slice An g.nodes.length cn)) 1 (.slice At g.ties.length ct)
   have HM := Lib.hid k3
   clear m0 m1 m2 k3 hG1
   go_wp2_with fail
   have k2 := block_cell HM.out 0
   have k3 := block_cell HM.out 1
   exact bodyPost_ret (v := .tuple #[.agg #[.slice An g.nodes.length cn, .slice At g.ties.length ct], .iface 122 (.int .i64 5)]) (by simp [results, Tryz.results107, go_sem, k2, k3]) rfl
    ⟨.slice An g.nodes.length cn, .slice At g.ties.length ct, by simp only [HEE.out], (fun h => absurd h (by omega)), ⟨_, _, _, _, _, _, rfl, rfl⟩, ((hB1.mono hB).setCell (p := ⟨w.heap.size + 1 + 1, 0, none⟩) (by show B <= w.heap.size + 1 + 1; omega) _).setCell (p := ⟨w.heap.size + 1 + 1, 1, none⟩) (by show B <= w.heap.size + 1 + 1; omega) _, (((Keep2.below hB1).box (p := ⟨w.heap.size + 1 + 1, 0, none⟩) (by show w.heap.size <= w.heap.size + 1 + 1; omega) _).box (p := ⟨w.heap.size + 1 + 1, 1, none⟩) (by show w.heap.size <= w.heap.size + 1 + 1; omega) _)⟩
  | true =>
   have HER : Hid (errV E = .nilIface) := by unfold Hid; rw [HE.out, HLS.out]; rfl
   obtain rfl : G' = looseG g t := by rw [HG'.out]; rfl
   obtain ⟨d, hd⟩ := HTS.out rfl
   have hkl := (List.getElem?_eq_some_iff.1 hd).1
   obtain ⟨m, hm⟩ : ∃ m, g.ties.length = m + 1 := ⟨g.ties.length - 1, by omega⟩
   have hn1 := hG1.t
   rw [hm] at hn1
   have hdel := del1_ties w1 B _ m (g.ties.flatMap Tie.enc) hn1 K (by omega) (oneCell_flat Tie.enc_one g.ties) (by omega)
   rw [flat_take Tie.enc_len g.ties K (by omega), flat_drop Tie.enc_len g.ties (K + 1) (by omega), <- List.flatMap_append] at hdel
   have HTL : Hid ((looseG g t).ties.length = m) := by unfold Hid; rw [HLG.out]; simp; omega
   have HOK : Hid (∀ x ∈ (looseG g t).ties, x.ok) := by
    rw [HLG.out]
    intro x hx
    rcases List.mem_append.1 hx with h | h
    ·exact hG1.k x (List.mem_of_mem_take h)
    exact hG1.k x (List.mem_of_mem_drop h)
   have HTI : Hid ((looseG g t).ties = g.ties.take K ++ g.ties.drop (K + 1)) := by unfold Hid; rw [HLG.out]
   rw [<- HTI.out] at hdel
   have hx0 := block_cell m0 0
   have hx1 := block_cell m0 1
   have HG1 := Lib.hid hG1
   have M0 := Lib.hid m0
   have M2 := Lib.hid m2
   have HN1 := Lib.hid hn1
   have hKi : (K : Int) <= 1000 := by omega
   rw [hm] at hx1 M0
   rw [hm]
   clear m0 m1 m2 hn1 hG1 hd hkl hm
   go_wp2_with fail
   refine hdel.mono ?_
   clear hdel
   rintro e w2 ⟨u2, rfl, ho2, hg2, hu2⟩
   have hsame : ∀ T, 35 ≠ T -> Same T w1 w2 := fun T hT => Same.grown HN1.out hT hg2
   have hB2 : Below B w w2 := (hB1.mono hB).grown hg2 (by omega) (fun j e => (HN1.out.lt j e).1)
   have hs2 := hg2.size
   have hK2 : Keep2 w w2 (.slice An g.nodes.length cn) (.slice At g.ties.length ct) := (Keep2.below hB1).grown2' hg2
   clear hu2
   have n0 := hsame 25 (by decide) _ _ _ M0.out
   have n2 := hsame 25 (by decide) _ _ _ M2.out
   obtain ⟨A4, c4, rfl, _, _⟩ := ho2.form
   have p0 := setCell_block n0 1 (.slice A4 m c4)
   have p2 : (w2.setCell ⟨w.heap.size, 1, none⟩ (.slice A4 m c4)).heap[w.heap.size + 1 + 1]? = some (.cells #[.slice none 0 0, .slice none 0 0] 25 (0, 0)) := by rw [Below.heap_setCell _ _ _ _ (by simp; omega)]; exact n2
   have p3 := setCell_block p2 0 (.slice An g.nodes.length cn)
   have p4 := setCell_block p3 1 (.slice A4 m c4)
   have HS : Hid (∀ T, 25 ≠ T -> Same T w2 (((w2.setCell ⟨w.heap.size, 1, none⟩ (.slice A4 m c4)).setCell ⟨w.heap.size + 1 + 1, 0, none⟩ (.slice An g.nodes.length cn)).setCell ⟨w.heap.size + 1 + 1, 1, none⟩ (.slice A4 m c4))) := fun T hT =>
    (Same.setCell (p := ⟨w.heap.size, 1, none⟩) n0 hT _).trans ((Same.setCell (p := ⟨w.heap.size + 1 + 1, 0, none⟩) p2 hT _).trans (Same.setCell (p := ⟨w.heap.size + 1 + 1, 1, none⟩) p3 hT _))
   have HFIN : Hid (OwnG (((w2.setCell ⟨w.heap.size, 1, none⟩ (.slice A4 m c4)).setCell ⟨w.heap.size + 1 + 1, 0, none⟩ (.slice An g.nodes.length cn)).setCell ⟨w.heap.size + 1 + 1, 1, none⟩ (.slice A4 m c4)) B (.slice An g.nodes.length cn) (.slice A4 m c4) (looseG g t) xs) := by
    refine ⟨(HG1.out.n.same (hsame _ (by decide))).same (HS.out _ (by decide)), (HG1.out.o.same (hsame _ (by decide))).same (HS.out _ (by decide)), ?_, HOK.out⟩
    rw [HTL.out]; exact ho2.same (HS.out _ (by decide))
   have a0 := block_free n0 1
   have a1 := block_cell n0 0
   have a2 := block_cell n0 1
   have a3 := block_cell p0 0
   have a4 := block_cell p0 1
   have a5 := block_free p2 0
   have a6 := block_free p2 1
   have a7 := block_cell p2 0
   have a8 := block_cell p2 1
   have HP4 := Lib.hid p4
   clear ho2 n0 n2 p0 p2 p3 p4 hsame hg2
   go_wp2_with fail
   have k2 := block_cell HP4.out 0
   have k3 := block_cell HP4.out 1
   exact bodyPost_ret (v := .tuple #[.agg #[.slice An g.nodes.length cn, .slice A4 m c4], .nilIface]) (by simp [results, Tryz.results107, go_sem, k2, k3]) rfl
    ⟨_, _, by simp only [HER.out], (fun _ => ⟨_, HFIN.out⟩), ⟨_, _, _, _, _, _, rfl, rfl⟩, ((hB2.setCell (p := ⟨w.heap.size, 1, none⟩) hB _).setCell (p := ⟨w.heap.size + 1 + 1, 0, none⟩) (by show B <= w.heap.size + 1 + 1; omega) _).setCell (p := ⟨w.heap.size + 1 + 1, 1, none⟩) (by show B <= w.heap.size + 1 + 1; omega) _, (((hK2.box (p := ⟨w.heap.size, 1, none⟩) (Nat.le_refl _) _).box (p := ⟨w.heap.size + 1 + 1, 0, none⟩) (by show w.heap.size <= w.heap.size + 1 + 1; omega) _).box (p := ⟨w.heap.size + 1 + 1, 1, none⟩) (by show w.heap.size <= w.heap.size + 1 + 1; omega) _)⟩
 | true =>
  obtain rfl : G' = bindG g t := by rw [HG'.out]; rfl
  have HE2 : Hid (E = if tieE t = 0 then (if q then 7 else if 120 <= g.ties.length then 4 else 0) else tieE t) := by unfold Hid; rw [HE.out, HTB.out, HP.out]
  have x0 := block_cell m0 0
  have x1 := block_cell m0 1
  have y0 := block_cell m1 0
  have y1 := block_cell m1 1
  have y2 := block_cell m1 2
  have ho := ofTie_any t w1 hok.1
  clear HE HP HTB HLS
  go_wp2_with fail
  refine ho.mono ?_
  clear ho
  rintro e w1b ⟨rfl, hb1b⟩
  have hB1' := hB1.trans (hb1b.mono hB1.size)
  have m0' := (hb1b.block _ (geB m0)).trans m0
  have m1' := (hb1b.block _ (geB m1)).trans m1
  have m2' := (hb1b.block _ (geB m2)).trans m2
  have hG1' := hG1.below hb1b
  have hs1' := hb1b.size
  clear hB1 m0 m1 m2 hG1 hb1b x0 x1 y0 y1 y2
  have hB1 := hB1'
  have m0 := m0'
  have m1 := m1'
  have m2 := m2'
  have hG1 := hG1'
  clear hB1' m0' m1' m2' hG1'
  by_cases he : tieE t = 0
  case neg =>
   have HEE : Hid (errV E = .iface 122 (.int .i64 (tieE t))) := by unfold Hid; rw [HE2.out, if_neg he]; exact errV_some he
   have HNE : Hid (¬ E = 0) := by unfold Hid; rw [HE2.out, if_neg he]; exact he
   rw [errV_some he]
   clear HE2 he
   have x0 := block_cell m0 0
   have x1 := block_cell m0 1
   have e0 := block_free m2 0
   have e1 := block_free m2 1
   have e2 := block_cell m2 0
   have e3 := block_cell m2 1
   have k3 := setCell_block (setCell_block m2 0 (.slice An g.nodes.length cn)) 1 (.slice At g.ties.length ct)
   have HM := Lib.hid k3
   clear m0 m1 m2 k3 hG1
   go_wp2_with fail
   have k2 := block_cell HM.out 0
   have k3 := block_cell HM.out 1
   exact bodyPost_ret (v := .tuple #[.agg #[.slice An g.nodes.length cn, .slice At g.ties.length ct], .iface 122 (.int .i64 (tieE t))]) (by simp [results, Tryz.results107, go_sem, k2, k3]) rfl
    ⟨.slice An g.nodes.length cn, .slice At g.ties.length ct, by simp only [HEE.out], (fun h => absurd h HNE.out), ⟨_, _, _, _, _, _, rfl, rfl⟩, ((hB1.mono hB).setCell (p := ⟨w.heap.size + 1 + 1, 0, none⟩) (by show B <= w.heap.size + 1 + 1; omega) _).setCell (p := ⟨w.heap.size + 1 + 1, 1, none⟩) (by show B <= w.heap.size + 1 + 1; omega) _, (((Keep2.below hB1).box (p := ⟨w.heap.size + 1 + 1, 0, none⟩) (by show w.heap.size <= w.heap.size + 1 + 1; omega) _).box (p := ⟨w.heap.size + 1 + 1, 1, none⟩) (by show w.heap.size <= w.heap.size + 1 + 1; omega) _)⟩
  have HE3 : Hid (E = if q then 7 else if 120 <= g.ties.length then 4 else 0) := by unfold Hid; rw [HE2.out, if_pos he]
  rw [errV_zero he]
  clear HE2 he
  cases q with
  | true =>
   have hE : E = 7 := by rw [HE3.out]; rfl
   have HEE : Hid (errV E = .iface 122 (.int .i64 7)) := by unfold Hid; rw [hE]; rfl
   clear HE3
   have x0 := block_cell m0 0
   have x1 := block_cell m0 1
   have e0 := block_free m2 0
   have e1 := block_free m2 1
   have e2 := block_cell m2 0
   have e3 := block_cell m2 1
   have k3 := setCell_block (setCell_block m2 0 (.slice An g.nodes.length cn)) 1 (.slice At g.ties.length ct)
   have HM := Lib.hid k3
   clear m0 m1 m2 k3 hG1
   go_wp2_with fail
   have k2 := block_cell HM.out 0
   have k3 := block_cell HM.out 1
   exact bodyPost_ret (v := .tuple #[.agg #[.slice An g.nodes.length cn, .slice At g.ties.length ct], .iface 122 (.int .i64 7)]) (by simp [results, Tryz.results107, go_sem, k2, k3]) rfl
    ⟨.slice An g.nodes.length cn, .slice At g.ties.length ct, by simp only [HEE.out], (fun h => absurd h (by omega)), ⟨_, _, _, _, _, _, rfl, rfl⟩, ((hB1.mono hB).setCell (p := ⟨w.heap.size + 1 + 1, 0, none⟩) (by show B <= w.heap.size + 1 + 1; omega) _).setCell (p := ⟨w.heap.size + 1 + 1, 1, none⟩) (by show B <= w.heap.size + 1 + 1; omega) _, (((Keep2.below hB1).box (p := ⟨w.heap.size + 1 + 1, 0, none⟩) (by show w.heap.size <= w.heap.size + 1 + 1; omega) _).box (p := ⟨w.heap.size + 1 + 1, 1, none⟩) (by show w.heap.size <= w.heap.size + 1 + 1; omega) _)⟩
  | false =>
   by_cases hf : 120 <= g.ties.length
   ·have hE : E = 4 := by rw [HE3.out, if_neg (by simp), if_pos hf]
    have HEE : Hid (errV E = .iface 122 (.int .i64 4)) := by unfold Hid; rw [hE]; rfl
    have hf' : (120 : Int) <= (g.ties.length : Int) := by omega
    clear HE3
    have x0 := block_cell m0 0
    have x1 := block_cell m0 1
    have e0 := block_free m2 0
    have e1 := block_free m2 1
    have e2 := block_cell m2 0
    have e3 := block_cell m2 1
    have k3 := setCell_block (setCell_block m2 0 (.slice An g.nodes.length cn)) 1 (.slice At g.ties.length ct)
    have HM := Lib.hid k3
    clear m0 m1 m2 k3 hG1
    go_wp2_with fail
    have k2 := block_cell HM.out 0
    have k3 := block_cell HM.out 1
    exact bodyPost_ret (v := .tuple #[.agg #[.slice An g.nodes.length cn, .slice At g.ties.length ct], .iface 122 (.int .i64 4)]) (by simp [results, Tryz.results107, go_sem, k2, k3]) rfl
     ⟨.slice An g.nodes.length cn, .slice At g.ties.length ct, by simp only [HEE.out], (fun h => absurd h (by omega)), ⟨_, _, _, _, _, _, rfl, rfl⟩, ((hB1.mono hB).setCell (p := ⟨w.heap.size + 1 + 1, 0, none⟩) (by show B <= w.heap.size + 1 + 1; omega) _).setCell (p := ⟨w.heap.size + 1 + 1, 1, none⟩) (by show B <= w.heap.size + 1 + 1; omega) _, (((Keep2.below hB1).box (p := ⟨w.heap.size + 1 + 1, 0, none⟩) (by show w.heap.size <= w.heap.size + 1 + 1; omega) _).box (p := ⟨w.heap.size + 1 + 1, 1, none⟩) (by show w.heap.size <= w.heap.size + 1 + 1; omega) _)⟩
   have hE : E = 0 := by rw [HE3.out, if_neg (by simp), if_neg hf]
   have HER : Hid (errV E = .nilIface) := by unfold Hid; rw [hE]; rfl
   have hf' : (g.ties.length : Int) < 120 := by omega
   clear HE3 hE
   have x0 := block_cell m0 0
   have x1 := block_cell m0 1
   have y0 := block_cell m1 0
   have y1 := block_cell m1 1
   have y2 := block_cell m1 2
   have hbx : Below w1b.heap.size w1b (w1b.alloc (.cells #[.string t.bond, .int .i64 t.src, .int .i64 t.dst] 35)) := (Below.refl _ _).alloc (Nat.le_refl _) _
   have hfi := flat_insert Tie.enc_len g.ties K hKl t
   have hil := ins_tie (w1b.alloc (.cells #[.string t.bond, .int .i64 t.src, .int .i64 t.dst] 35)) B (.slice At g.ties.length ct) g.ties.length (g.ties.flatMap Tie.enc) (hG1.t.alloc _) K hKl w1b.heap.size t.enc rfl (heap_alloc_new _ _) t.enc_one (oneCell_flat Tie.enc_one g.ties)
    (fun e => by have := (hG1.t.lt _ e).2; omega) (by simp; omega) (by omega)
   rw [hfi] at hil
   have HTI : Hid ((bindG g t).ties = g.ties.take K ++ t :: g.ties.drop K) := by unfold Hid; rw [HBG.out]
   rw [<- HTI.out] at hil
   have HTL : Hid ((bindG g t).ties.length = g.ties.length + 1) := by unfold Hid; rw [HBG.out]; simp; omega
   have HOK : Hid (∀ x ∈ (bindG g t).ties, x.ok) := by
    rw [HBG.out]
    intro x hx
    rcases List.mem_append.1 hx with h | h
    ·exact hG1.k x (List.mem_of_mem_take h)
    rcases List.mem_cons.1 h with rfl | h
    ·exact hok
    exact hG1.k x (List.mem_of_mem_drop h)
   have HG1 := Lib.hid (hG1.below hbx)
   have M0 := Lib.hid ((hbx.block _ (geB m0)).trans m0)
   have M2 := Lib.hid ((hbx.block _ (geB m2)).trans m2)
   have HKx : Hid (Keep2 w (w1b.alloc (.cells #[.string t.bond, .int .i64 t.src, .int .i64 t.dst] 35)) (.slice An g.nodes.length cn) (.slice At g.ties.length ct)) := (Keep2.below hB1).then hbx
   have HB1x := Lib.hid ((hB1.mono hB).alloc (by omega) (.cells #[.string t.bond, .int .i64 t.src, .int .i64 t.dst] 35))
   have hxs : (w1b.alloc (.cells #[.string t.bond, .int .i64 t.src, .int .i64 t.dst] 35)).heap.size = w1b.heap.size + 1 := by simp
   clear m0 m1 m2 hG1 hfi
   go_wp2_with fail
   refine hil.mono ?_
   clear hil
   rintro e w2 ⟨u2, rfl, ho2, hg2⟩
   have hsame : ∀ T, 35 ≠ T -> Same T (w1b.alloc (.cells #[.string t.bond, .int .i64 t.src, .int .i64 t.dst] 35)) w2 := fun T hT => Same.grown HG1.out.t hT hg2
   have hB2 : Below B w w2 := HB1x.out.grown hg2 (by omega) (fun j e => (HG1.out.t.lt j e).1)
   have hs2 := hg2.size
   have hK2 : Keep2 w w2 (.slice An g.nodes.length cn) (.slice At g.ties.length ct) := (HKx.out).grown2 hg2
   have n0 := hsame 25 (by decide) _ _ _ M0.out
   have n2 := hsame 25 (by decide) _ _ _ M2.out
   obtain ⟨A4, c4, rfl, _, _⟩ := ho2.form
   have p0 := setCell_block n0 1 (.slice A4 (g.ties.length + 1) c4)
   have p2 : (w2.setCell ⟨w.heap.size, 1, none⟩ (.slice A4 (g.ties.length + 1) c4)).heap[w.heap.size + 1 + 1]? = some (.cells #[.slice none 0 0, .slice none 0 0] 25 (0, 0)) := by rw [Below.heap_setCell _ _ _ _ (by simp; omega)]; exact n2
   have p3 := setCell_block p2 0 (.slice An g.nodes.length cn)
   have p4 := setCell_block p3 1 (.slice A4 (g.ties.length + 1) c4)
   have HS : Hid (∀ T, 25 ≠ T -> Same T w2 (((w2.setCell ⟨w.heap.size, 1, none⟩ (.slice A4 (g.ties.length + 1) c4)).setCell ⟨w.heap.size + 1 + 1, 0, none⟩ (.slice An g.nodes.length cn)).setCell ⟨w.heap.size + 1 + 1, 1, none⟩ (.slice A4 (g.ties.length + 1) c4))) := fun T hT =>
    (Same.setCell (p := ⟨w.heap.size, 1, none⟩) n0 hT _).trans ((Same.setCell (p := ⟨w.heap.size + 1 + 1, 0, none⟩) p2 hT _).trans (Same.setCell (p := ⟨w.heap.size + 1 + 1, 1, none⟩) p3 hT _))
   have HFIN : Hid (OwnG (((w2.setCell ⟨w.heap.size, 1, none⟩ (.slice A4 (g.ties.length + 1) c4)).setCell ⟨w.heap.size + 1 + 1, 0, none⟩ (.slice An g.nodes.length cn)).setCell ⟨w.heap.size + 1 + 1, 1, none⟩ (.slice A4 (g.ties.length + 1) c4)) B (.slice An g.nodes.length cn) (.slice A4 (g.ties.length + 1) c4) (bindG g t) xs) := by
    refine ⟨(HG1.out.n.same (hsame _ (by decide))).same (HS.out _ (by decide)), (HG1.out.o.same (hsame _ (by decide))).same (HS.out _ (by decide)), ?_, HOK.out⟩
    rw [HTL.out]; exact ho2.same (HS.out _ (by decide))
   have a0 := block_free n0 1
   have a1 := block_cell n0 0
   have a2 := block_cell n0 1
   have a3 := block_cell p0 0
   have a4 := block_cell p0 1
   have a5 := block_free p2 0
   have a6 := block_free p2 1
   have a7 := block_cell p2 0
   have a8 := block_cell p2 1
   have HP4 := Lib.hid p4
   clear ho2 n0 n2 p0 p2 p3 p4 hsame hg2
   go_wp2_with fail
   have k2 := block_cell HP4.out 0
   have k3 := block_cell HP4.out 1
   exact bodyPost_ret (v := .tuple #[.agg #[.slice An g.nodes.length cn, .slice A4 (g.ties.length + 1) c4], .nilIface]) (by simp [results, Tryz.results107, go_sem, k2, k3]) rfl
    ⟨_, _, by simp only [HER.out], (fun _ => ⟨_, HFIN.out⟩), ⟨_, _, _, _, _, _, rfl, rfl⟩, ((hB2.setCell (p := ⟨w.heap.size, 1, none⟩) hB _).setCell (p := ⟨w.heap.size + 1 + 1, 0, none⟩) (by show B <= w.heap.size + 1 + 1; omega) _).setCell (p := ⟨w.heap.size + 1 + 1, 1, none⟩) (by show B <= w.heap.size + 1 + 1; omega) _, (((hK2.box (p := ⟨w.heap.size, 1, none⟩) (Nat.le_refl _) _).box (p := ⟨w.heap.size + 1 + 1, 0, none⟩) (by show w.heap.size <= w.heap.size + 1 + 1; omega) _).box (p := ⟨w.heap.size + 1 + 1, 1, none⟩) (by show w.heap.size <= w.heap.size + 1 + 1; omega) _)⟩
theorem nod_rec' {n : Nod} (h : nodE n = 0) : recE n.props = 0 := by
 unfold nodE at h
 split at h
 ·omega
 split at h
 ·exact h
 rename_i h2; exact absurd h h2
set_option maxRecDepth 100000 in
set_option maxHeartbeats 8000000 in
theorem born_any (g : Grf) (n : Nod) (vn vt vr : Value) (xs : List Value) (B : Nat) (w : World) (hB : B <= w.heap.size) (hG : OwnG w B vn vt g xs) (hc : chain nodLt g.nodes = true) (hn : g.nodes.length <= 1000)
 (hr : Sl prpL w vr n.props) (hk : Sm n.kind) (hi : I64 n.id) :
 Calls Tryz.prog 100 #[.agg #[vn, vt], .agg #[.int .i64 n.id, .string n.kind, vr]] w (RetOG B vn vt (bornG g n) (bornE g n) w) := by
 obtain ⟨An, cn, rfl, _, _⟩ := hG.n.form
 obtain ⟨At, ct, rfl, _, _⟩ := hG.t.form
 obtain ⟨Ar, cr, rfl, _, _⟩ := hr.form
 have hb0 : Below w.heap.size w (((w.alloc (.cells #[.slice An g.nodes.length cn, .slice At g.ties.length ct] 25)).alloc (.cells #[.int .i64 n.id, .string n.kind, .slice Ar n.props.length cr] 29)).alloc (.cells #[.slice none 0 0, .slice none 0 0] 25)) := (((Below.refl _ _).alloc (Nat.le_refl _) _).alloc (by simp) _).alloc (by simp; omega) _
 have g0 : (((w.alloc (.cells #[.slice An g.nodes.length cn, .slice At g.ties.length ct] 25)).alloc (.cells #[.int .i64 n.id, .string n.kind, .slice Ar n.props.length cr] 29)).alloc (.cells #[.slice none 0 0, .slice none 0 0] 25)).heap[w.heap.size]? = some (.cells #[.slice An g.nodes.length cn, .slice At g.ties.length ct] 25 (0, 0)) := by
  rw [Below.heap_alloc _ _ _ (by simp; omega), Below.heap_alloc _ _ _ (by simp)]; exact heap_alloc_new _ _
 have g1 : (((w.alloc (.cells #[.slice An g.nodes.length cn, .slice At g.ties.length ct] 25)).alloc (.cells #[.int .i64 n.id, .string n.kind, .slice Ar n.props.length cr] 29)).alloc (.cells #[.slice none 0 0, .slice none 0 0] 25)).heap[w.heap.size + 1]? = some (.cells #[.int .i64 n.id, .string n.kind, .slice Ar n.props.length cr] 29 (0, 0)) := by
  rw [Below.heap_alloc _ _ _ (by simp)]
  have := heap_alloc_new (w.alloc (.cells #[.slice An g.nodes.length cn, .slice At g.ties.length ct] 25)) (.cells #[.int .i64 n.id, .string n.kind, .slice Ar n.props.length cr] 29); simpa using this
 have g2 : (((w.alloc (.cells #[.slice An g.nodes.length cn, .slice At g.ties.length ct] 25)).alloc (.cells #[.int .i64 n.id, .string n.kind, .slice Ar n.props.length cr] 29)).alloc (.cells #[.slice none 0 0, .slice none 0 0] 25)).heap[w.heap.size + 1 + 1]? = some (.cells #[.slice none 0 0, .slice none 0 0] 25 (0, 0)) := by
  have := heap_alloc_new ((w.alloc (.cells #[.slice An g.nodes.length cn, .slice At g.ties.length ct] 25)).alloc (.cells #[.int .i64 n.id, .string n.kind, .slice Ar n.props.length cr] 29)) (.cells #[.slice none 0 0, .slice none 0 0] 25); simpa using this
 have hsz : (((w.alloc (.cells #[.slice An g.nodes.length cn, .slice At g.ties.length ct] 25)).alloc (.cells #[.int .i64 n.id, .string n.kind, .slice Ar n.props.length cr] 29)).alloc (.cells #[.slice none 0 0, .slice none 0 0] 25)).heap.size = w.heap.size + 3 := by simp
 generalize hW0 : (((w.alloc (.cells #[.slice An g.nodes.length cn, .slice At g.ties.length ct] 25)).alloc (.cells #[.int .i64 n.id, .string n.kind, .slice Ar n.props.length cr] 29)).alloc (.cells #[.slice none 0 0, .slice none 0 0] 25)) = W0 at *
 have hG0 := hG.below hb0
 have hon := ofNode_any n _ W0 hk (hr.below hb0)
 have x0 := block_cell g0 0
 have x1 := block_cell g0 1
 have y0 := block_cell g1 0
 have y1 := block_cell g1 1
 have y2 := block_cell g1 2
 have HR := Lib.hid (hr.below hb0)
 have HG := Lib.hid hG0
 have HW0 := Lib.hid hW0
 clear hG hG0 hr
 obtain ⟨E, hE⟩ : ∃ E : Int, E = bornE g n := ⟨_, rfl⟩
 rw [<- hE]
 have HE : Hid (E = if nodE n = 0 then (if fhas g.nodes n.id then 7 else if 60 <= g.nodes.length then 4 else 0) else nodE n) := hE
 clear hE
 go_enter Tryz.func100, Tryz.ntmps100
 go_wp2_with fail
 refine hon.mono ?_
 clear hon
 rintro e w1 ⟨rfl, hb1⟩
 have hB1 := hb0.trans (hb1.mono hb0.size)
 have m0 := (hb1.block _ (geB g0)).trans g0
 have m1 := (hb1.block _ (geB g1)).trans g1
 have m2 := (hb1.block _ (geB g2)).trans g2
 have hG1 := HG.out.below hb1
 have hs1 := hb1.size
 clear g0 g1 g2 x0 x1 y0 y1 y2 HG
 by_cases he : nodE n = 0
 case neg =>
  have HEE : Hid (errV E = .iface 122 (.int .i64 (nodE n))) := by unfold Hid; rw [HE.out, if_neg he]; exact errV_some he
  have HNE : Hid (¬ E = 0) := by unfold Hid; rw [HE.out, if_neg he]; exact he
  rw [errV_some he]
  clear HE he
  have x0 := block_cell m0 0
  have x1 := block_cell m0 1
  have e0 := block_free m2 0
  have e1 := block_free m2 1
  have e2 := block_cell m2 0
  have e3 := block_cell m2 1
  have k3 := setCell_block (setCell_block m2 0 (.slice An g.nodes.length cn)) 1 (.slice At g.ties.length ct)
  have HM := Lib.hid k3
  clear m0 m1 m2 k3 hG1
  go_wp2_with fail
  have k2 := block_cell HM.out 0
  have k3 := block_cell HM.out 1
  exact bodyPost_ret (v := .tuple #[.agg #[.slice An g.nodes.length cn, .slice At g.ties.length ct], .iface 122 (.int .i64 (nodE n))]) (by simp [results, Tryz.results100, go_sem, k2, k3]) rfl
   ⟨.slice An g.nodes.length cn, .slice At g.ties.length ct, by simp only [HEE.out], (fun h => absurd h HNE.out), ⟨_, _, _, _, _, _, rfl, rfl⟩, ((hB1.mono hB).setCell (p := ⟨w.heap.size + 1 + 1, 0, none⟩) (by show B <= w.heap.size + 1 + 1; omega) _).setCell (p := ⟨w.heap.size + 1 + 1, 1, none⟩) (by show B <= w.heap.size + 1 + 1; omega) _, (((Keep2.below hB1).box (p := ⟨w.heap.size + 1 + 1, 0, none⟩) (by show w.heap.size <= w.heap.size + 1 + 1; omega) _).box (p := ⟨w.heap.size + 1 + 1, 1, none⟩) (by show w.heap.size <= w.heap.size + 1 + 1; omega) _)⟩
 have HE3 : Hid (E = if fhas g.nodes n.id then 7 else if 60 <= g.nodes.length then 4 else 0) := by unfold Hid; rw [HE.out, if_pos he]
 have hrec := (rec_ok (nod_rec' he)).1
 have hsm := HR.out.below hb1
 rw [errV_zero he]
 have hf := find_any g _ _ w1 hG1.r n.id hc hn
 have HR1 := Lib.hid hsm
 have x0 := block_cell m0 0
 have x1 := block_cell m0 1
 have y0 := block_cell m1 0
 have hKl : fpos g.nodes n.id <= g.nodes.length := lowI_le _ _
 have HBG : Hid (bornG g n = ⟨g.nodes.take (fpos g.nodes n.id) ++ n :: g.nodes.drop (fpos g.nodes n.id), g.ties⟩) := rfl
 generalize fhas g.nodes n.id = q at *
 generalize fpos g.nodes n.id = K at *
 clear HE he HR hb1 hsm
 go_wp2_with fail
 refine hf.mono ?_
 clear hf
 rintro e w1b ⟨rfl, hb1b⟩
 have hB1' := hB1.trans (hb1b.mono hB1.size)
 have m0' := (hb1b.block _ (geB m0)).trans m0
 have m1' := (hb1b.block _ (geB m1)).trans m1
 have m2' := (hb1b.block _ (geB m2)).trans m2
 have hG1' := hG1.below hb1b
 have hs1' := hb1b.size
 have HR2 := Lib.hid (HR1.out.below hb1b)
 clear hB1 m0 m1 m2 hG1 hb1b x0 x1 y0 HR1
 have hB1 := hB1'
 have m0 := m0'
 have m1 := m1'
 have m2 := m2'
 have hG1 := hG1'
 clear hB1' m0' m1' m2' hG1'
 cases q with
 | true =>
  have hE : E = 7 := by rw [HE3.out]; rfl
  have HEE : Hid (errV E = .iface 122 (.int .i64 7)) := by unfold Hid; rw [hE]; rfl
  clear HE3
  have x0 := block_cell m0 0
  have x1 := block_cell m0 1
  have e0 := block_free m2 0
  have e1 := block_free m2 1
  have e2 := block_cell m2 0
  have e3 := block_cell m2 1
  have k3 := setCell_block (setCell_block m2 0 (.slice An g.nodes.length cn)) 1 (.slice At g.ties.length ct)
  have HM := Lib.hid k3
  clear m0 m1 m2 k3 hG1
  go_wp2_with fail
  have k2 := block_cell HM.out 0
  have k3 := block_cell HM.out 1
  exact bodyPost_ret (v := .tuple #[.agg #[.slice An g.nodes.length cn, .slice At g.ties.length ct], .iface 122 (.int .i64 7)]) (by simp [results, Tryz.results100, go_sem, k2, k3]) rfl
   ⟨.slice An g.nodes.length cn, .slice At g.ties.length ct, by simp only [HEE.out], (fun h => absurd h (by omega)), ⟨_, _, _, _, _, _, rfl, rfl⟩, ((hB1.mono hB).setCell (p := ⟨w.heap.size + 1 + 1, 0, none⟩) (by show B <= w.heap.size + 1 + 1; omega) _).setCell (p := ⟨w.heap.size + 1 + 1, 1, none⟩) (by show B <= w.heap.size + 1 + 1; omega) _, (((Keep2.below hB1).box (p := ⟨w.heap.size + 1 + 1, 0, none⟩) (by show w.heap.size <= w.heap.size + 1 + 1; omega) _).box (p := ⟨w.heap.size + 1 + 1, 1, none⟩) (by show w.heap.size <= w.heap.size + 1 + 1; omega) _)⟩
 | false =>
  by_cases hf : 60 <= g.nodes.length
  ·have hE : E = 4 := by rw [HE3.out, if_neg (by simp), if_pos hf]
   have HEE : Hid (errV E = .iface 122 (.int .i64 4)) := by unfold Hid; rw [hE]; rfl
   have hf' : (60 : Int) <= (g.nodes.length : Int) := by omega
   clear HE3
   have x0 := block_cell m0 0
   have x1 := block_cell m0 1
   have e0 := block_free m2 0
   have e1 := block_free m2 1
   have e2 := block_cell m2 0
   have e3 := block_cell m2 1
   have k3 := setCell_block (setCell_block m2 0 (.slice An g.nodes.length cn)) 1 (.slice At g.ties.length ct)
   have HM := Lib.hid k3
   clear m0 m1 m2 k3 hG1
   go_wp2_with fail
   have k2 := block_cell HM.out 0
   have k3 := block_cell HM.out 1
   exact bodyPost_ret (v := .tuple #[.agg #[.slice An g.nodes.length cn, .slice At g.ties.length ct], .iface 122 (.int .i64 4)]) (by simp [results, Tryz.results100, go_sem, k2, k3]) rfl
    ⟨.slice An g.nodes.length cn, .slice At g.ties.length ct, by simp only [HEE.out], (fun h => absurd h (by omega)), ⟨_, _, _, _, _, _, rfl, rfl⟩, ((hB1.mono hB).setCell (p := ⟨w.heap.size + 1 + 1, 0, none⟩) (by show B <= w.heap.size + 1 + 1; omega) _).setCell (p := ⟨w.heap.size + 1 + 1, 1, none⟩) (by show B <= w.heap.size + 1 + 1; omega) _, (((Keep2.below hB1).box (p := ⟨w.heap.size + 1 + 1, 0, none⟩) (by show w.heap.size <= w.heap.size + 1 + 1; omega) _).box (p := ⟨w.heap.size + 1 + 1, 1, none⟩) (by show w.heap.size <= w.heap.size + 1 + 1; omega) _)⟩
  have hE : E = 0 := by rw [HE3.out, if_neg (by simp), if_neg hf]
  have HER : Hid (errV E = .nilIface) := by unfold Hid; rw [hE]; rfl
  have hf' : (g.nodes.length : Int) < 60 := by omega
  clear HE3 hE
  have x0 := block_cell m0 0
  have x1 := block_cell m0 1
  have y0 := block_cell m1 0
  have y1 := block_cell m1 1
  have y2 := block_cell m1 2
  have hcall := ownNode_any n (.slice Ar n.props.length cr) w1b.drew (HR2.out.below (Below.refl _ _).drew) (by omega)
  have HG1 := Lib.hid hG1
  have M0 := Lib.hid m0
  have M2 := Lib.hid m2
  clear m0 m1 m2 hG1
  go_wp2_with fail
  go_region_law
   (first
     | (refine step_callx rfl 110 #[.agg #[.int .i64 n.id, .string n.kind, .slice Ar n.props.length cr]] (by kernel_rfl) hcall ?_
        rintro e w2 ⟨u2, rfl, hu, hb2⟩
        refine ⟨_, rfl, ?_⟩
        have hb2' := (Below.refl w1b.heap.size w1b).drew.trans hb2
        have p0 := cell_below hb2' x0
        obtain ⟨A2, c3, rfl, _, _⟩ := hu.1.form
        have hbx : Below w2.heap.size w2 (w2.alloc (.cells #[.int .i64 n.id, .string n.kind, .slice A2 n.props.length c3] 29)) := (Below.refl _ _).alloc (Nat.le_refl _) _
        have hG2 := (HG1.out.below hb2').below hbx
        have hil := ins_nod (w2.alloc (.cells #[.int .i64 n.id, .string n.kind, .slice A2 n.props.length c3] 29)) B (.slice An g.nodes.length cn) g.nodes.length xs hG2.n K hKl w2.heap.size [.int .i64 n.id, .string n.kind, .slice A2 n.props.length c3] rfl (heap_alloc_new _ _) (fun u hu => by simp at hu; rcases hu with rfl | rfl | rfl <;> rfl) hG2.o.oneCell
          (fun e => by have := ((HG1.out.below hb2').n.lt _ e).2; omega) (by have := hb2'.size; simp; omega) (by omega)
        have p0x := cell_below hbx p0)
     | (refine step_callx rfl 153 #[.slice An g.nodes.length cn, .int .i64 K, .slice (some ⟨w2.heap.size, 0, none⟩) 1 1] (by kernel_rfl) hil ?_
        rintro e w3 ⟨u3, rfl, ho3, hg3⟩
        refine ⟨_, rfl, ?_⟩
        have hsame : ∀ T, 29 ≠ T -> Same T w1b w3 := fun T hT => (Same.below (hb2'.trans (hbx.mono hb2'.size))).trans (Same.grown hG2.n hT hg3)
        have n0 := hsame 25 (by decide) _ _ _ M0.out
        have a0 := block_free n0 0
        have a1 := block_cell n0 0
        have a2 := block_cell n0 1
        obtain ⟨A4, c4, rfl, _, _⟩ := ho3.form))
  all_goals
   have n2 := hsame 25 (by decide) _ _ _ M2.out
   have p0 := setCell_block n0 0 (.slice A4 (g.nodes.length + 1) c4)
   have p2 : (w3.setCell ⟨w.heap.size, 0, none⟩ (.slice A4 (g.nodes.length + 1) c4)).heap[w.heap.size + 1 + 1]? = some (.cells #[.slice none 0 0, .slice none 0 0] 25 (0, 0)) := by rw [Below.heap_setCell _ _ _ _ (by simp; omega)]; exact n2
   have p3 := setCell_block p2 0 (.slice A4 (g.nodes.length + 1) c4)
   have p4 := setCell_block p3 1 (.slice At g.ties.length ct)
   have HS : Hid (∀ T, 25 ≠ T -> Same T w3 (((w3.setCell ⟨w.heap.size, 0, none⟩ (.slice A4 (g.nodes.length + 1) c4)).setCell ⟨w.heap.size + 1 + 1, 0, none⟩ (.slice A4 (g.nodes.length + 1) c4)).setCell ⟨w.heap.size + 1 + 1, 1, none⟩ (.slice At g.ties.length ct))) := fun T hT =>
    (Same.setCell (p := ⟨w.heap.size, 0, none⟩) n0 hT _).trans ((Same.setCell (p := ⟨w.heap.size + 1 + 1, 0, none⟩) p2 hT _).trans (Same.setCell (p := ⟨w.heap.size + 1 + 1, 1, none⟩) p3 hT _))
   have hs2 := hb2'.size
   have hs3 := hg3.size
   have hs2x : (w2.alloc (.cells #[.int .i64 n.id, .string n.kind, .slice A2 n.props.length c3] 29)).heap.size = w2.heap.size + 1 := by simp
   have hu4 : Own (w2.alloc (.cells #[.int .i64 n.id, .string n.kind, .slice A2 n.props.length c3] 29)) B 33 4 (.slice A2 n.props.length c3) n.props.length (n.props.flatMap Prp.enc) := (hu.1.mono (by have : w1b.drew.heap.size = w1b.heap.size := rfl; omega)).below hbx
   have hon : OwnNods (w2.alloc (.cells #[.int .i64 n.id, .string n.kind, .slice A2 n.props.length c3] 29)) B (g.nodes.take K ++ n :: g.nodes.drop K) (xs.take (K * 3) ++ [.int .i64 n.id, .string n.kind, .slice A2 n.props.length c3] ++ xs.drop (K * 3)) := hG2.o.insert K hKl hi hk hu.2 hu4
   have HFIN : Hid (OwnG (((w3.setCell ⟨w.heap.size, 0, none⟩ (.slice A4 (g.nodes.length + 1) c4)).setCell ⟨w.heap.size + 1 + 1, 0, none⟩ (.slice A4 (g.nodes.length + 1) c4)).setCell ⟨w.heap.size + 1 + 1, 1, none⟩ (.slice At g.ties.length ct)) B (.slice A4 (g.nodes.length + 1) c4) (.slice At g.ties.length ct) (bornG g n) (xs.take (K * 3) ++ [.int .i64 n.id, .string n.kind, .slice A2 n.props.length c3] ++ xs.drop (K * 3))) := by
    rw [HBG.out]
    refine ⟨?_, (hon.same (Same.grown hG2.n (by decide) hg3)).same (HS.out _ (by decide)), ((HG1.out.t.same (hsame _ (by decide))).same (HS.out _ (by decide))), HG1.out.k⟩
    have hl : (g.nodes.take K ++ n :: g.nodes.drop K).length = g.nodes.length + 1 := by simp; omega
    show Own _ B 29 3 _ (g.nodes.take K ++ n :: g.nodes.drop K).length _
    rw [hl]
    exact ho3.same (HS.out _ (by decide))
   have hK3 : Keep2 w w3 (.slice An g.nodes.length cn) (.slice At g.ties.length ct) := ((Keep2.below hB1).then (hb2'.trans (hbx.mono hb2'.size))).grown1 hg3
   have hB3 : Below B w w3 := ((hB1.mono hB).trans ((hb2'.trans (hbx.mono hb2'.size)).mono (by omega))).grown hg3 (by omega) (fun j e => (hG2.n.lt j e).1)
   have a3 := block_cell p0 0
   have a4 := block_cell p0 1
   have a5 := block_free p2 0
   have a6 := block_free p2 1
   have a7 := block_cell p2 0
   have a8 := block_cell p2 1
   have HP4 := Lib.hid p4
   clear ho3 hil n0 n2 p0 p2 p3 p4 hsame hg3 hG2 hu hu4 hon a0 a1 a2 p0x x0 x1 y0 y1 y2
   go_wp2_with fail
   have k2 := block_cell HP4.out 0
   have k3 := block_cell HP4.out 1
   exact bodyPost_ret (v := .tuple #[.agg #[.slice A4 (g.nodes.length + 1) c4, .slice At g.ties.length ct], .nilIface]) (by simp [results, Tryz.results100, go_sem, k2, k3]) rfl
    ⟨.slice A4 (g.nodes.length + 1) c4, .slice At g.ties.length ct, by simp only [HER.out], (fun _ => ⟨_, HFIN.out⟩), ⟨_, _, _, _, _, _, rfl, rfl⟩, ((hB3.setCell (p := ⟨w.heap.size, 0, none⟩) hB _).setCell (p := ⟨w.heap.size + 1 + 1, 0, none⟩) (by show B <= w.heap.size + 1 + 1; omega) _).setCell (p := ⟨w.heap.size + 1 + 1, 1, none⟩) (by show B <= w.heap.size + 1 + 1; omega) _, (((hK3.box (p := ⟨w.heap.size, 0, none⟩) (Nat.le_refl _) _).box (p := ⟨w.heap.size + 1 + 1, 0, none⟩) (by show w.heap.size <= w.heap.size + 1 + 1; omega) _).box (p := ⟨w.heap.size + 1 + 1, 1, none⟩) (by show w.heap.size <= w.heap.size + 1 + 1; omega) _)⟩
end Go.Proofs.YtngbbefpphinjaaGreatDoor
