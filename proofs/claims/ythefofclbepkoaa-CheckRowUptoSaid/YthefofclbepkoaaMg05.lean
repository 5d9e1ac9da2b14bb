/- Parts: InsB, ValA. -/
import Derived.Test.YthefofclbepkoaaMg04
import Derived.Test.YthefofclbepkoaaRows
import Derived.Maps.RangeWalk
import Derived.Test.YthefofclbepkoaaMg01
import Derived.Deep.LoopGhost
import Derived.Shelf.GgClosure.Gives
import Derived.Lib.ConvBytes
/- Contract: slices.Insert of one element into a slice that the call owns. -/
namespace Go.Proofs.Ythefofclbepkoaa
open Go Go.RowKit

/-- The outcome: the new slice, of the call's own; nothing else has turned. -/
def InsR (w : World) (B : Nat) (e : TypeId) (sz : Nat) (v : Value) (n : Nat) (ys : List Value) (ed : Ending) (w' : World) : Prop :=
  ∃ v', ed = .returned v' ∧ Own w' B e sz v' (n + 1) ys ∧ w.grownBy w' v.ownBlock

/-- .. and where the new one lies. -/
def InsRA (w : World) (B : Nat) (e : TypeId) (sz : Nat) (v : Value) (n : Nat) (ys : List Value) (ed : Ending) (w' : World) : Prop :=
  ∃ v', ed = .returned v' ∧ Own w' B e sz v' (n + 1) ys ∧ w.grownBy w' v.ownBlock ∧ (v'.ownBlock = v.ownBlock ∨ ∃ k, v'.ownBlock = some k ∧ w.heap.size ≤ k)
theorem InsRA.r {w : World} {B : Nat} {e : TypeId} {sz : Nat} {v : Value} {n : Nat} {ys : List Value} {ed : Ending} {w' : World} (h : InsRA w B e sz v n ys ed w') : InsR w B e sz v n ys ed w' := by
  obtain ⟨v', h1, h2, h3, _⟩ := h
  exact ⟨v', h1, h2, h3⟩
theorem at_new {a b : Option Nat} {n : Nat} (h : a = b ∨ a = some n) : a = b ∨ ∃ k, a = some k ∧ n ≤ k := h.imp id fun h => ⟨n, h, Nat.le_refl _⟩
theorem _root_.Go.World.grownBy.drawnN {w w' : World} {row : Option Nat} (h : w.grownBy w' row) (n : Nat) : w.grownBy (w'.drewN n) row := ⟨h.os, h.tape, h.output, h.size, h.block⟩

theorem append_t2 {P : Program} (w : World) {t t2 e : TypeId} (ty : TypeId) (ht : P.underlying t = some (.slice e)) (ht2 : P.underlying t2 = some (.slice e)) (a b : Value) :
    (Builtin.append_ #[t, t2] ty #[a, b]).run P w = (Builtin.append_ #[t, t] ty #[a, b]).run P w := by
  have h1 := fun w => run_underlying (w := w) ht
  have h2 := fun w => run_underlying (w := w) ht2
  unfold Builtin.append_
  simp only [List.getElem?_toArray, List.getElem?_cons_zero, List.getElem?_cons_succ, Sem.run_bind, h1, Result.andThen_ok]
  cases a <;> simp only [Sem.run_bind, h1, h2, Result.andThen_ok]
theorem wpList_append_q2 {P : Program} (w : World) {ops : Array Oper} {rest : List Oper} {o : Oper} {a : Act} {Q : Exit → Act → World → Prop} (hgd : o.guard = none) (s x : Operand) (t t2 : TypeId)
    (ho : o.op = .call { callee := .builtin .append, args := #[s, x], argTypes := #[t, t2] }) (e : TypeId) (ht2 : P.underlying t2 = some (.slice e))
    (B : Nat) (i : TypeInfo) (z : Value) (size bytes : Nat) (ht : P.underlying t = some (.slice e)) (hi : P.info? e = some i) (hz : i.zero = some z)
    (hsize : i.size = size) (hby : i.bytes = bytes) (hzs : z.cells.size = size) (hsz : 0 < size)
    (v : Value) (n : Nat) (xs : List Value) (hs : a.eval s = v) (hown : Own w B e size v n xs)
    (A : Option Addr) (m c : Nat) (news : List Value) (hx : a.eval x = .slice A m c) (hl : news.length = m * size) (hA : 0 < m → ∃ a, A = some a ∧ ∀ j u, news[j]? = some u → w.cell? (a.add j) = some u) (h1 : ∀ u ∈ news, u.oneCell' = true)
    (h63 : n + m ≤ maxLen) (hbytes : (n + m) * bytes ≤ 140737488355328) (hbase : B ≤ w.heap.size)
    (h : ∀ v' w', Own w' B e size v' (n + m) (xs ++ news) → w.grownBy w' v.ownBlock → (v'.ownBlock = v.ownBlock ∨ v'.ownBlock = some w.heap.size) → wpList P ops Q rest (a.put o.dst v') w') : wpList P ops Q (o :: rest) a w :=
  wpList_plain hgd fun K hK => by
    obtain ⟨v', w', hr, h2, h3, h4⟩ := run_append_q (P := P) w B t o.type e i z size bytes ht hi hz hsize hby hzs hsz v n xs hown A m c news hl hA h1 h63 hbytes hbase
    have hr2 := (append_t2 w o.type ht ht2 v (.slice A m c)).trans hr
    unfold Oper.wp execOp
    simp only [ho, resolve, invoke, builtin, Sem.run_bind, Sem.run_pure, Result.andThen_ok, List.map_toArray, List.map_cons, List.map_nil, hs, hx, hr2]
    exact hK _ _ (h v' w' h2 h3 h4)

theorem ins_fld_info : (Try.prog.info? 101).map (fun i => (i.zero, i.size, i.bytes)) = some (some (.agg #[.string .empty, .int .i64 0, .bool false, .bool false]), 4, 32) := by kernel_rfl
set_option maxRecDepth 100000 in
set_option maxHeartbeats 8000000 in
theorem ins_fld_at (w : World) (B : Nat) (v : Value) (n : Nat) (xs : List Value) (hown : Own w B 101 4 v n xs) (i : Nat) (hi : i ≤ n) (vb : Nat) (cs : List Value) (hcl : cs.length = 4)
    (hcs : w.heap[vb]? = some (.cells cs.toArray 101 (0, 0))) (h1 : ∀ u ∈ cs, u.oneCell' = true) (hx1 : ∀ u ∈ xs, u.oneCell' = true) (hne : v.ownBlock ≠ some vb) (hB : B ≤ w.heap.size) (hn : n ≤ 1000000) :
    Calls Try.prog 108 #[v, .int .i64 i, .slice (some ⟨vb, 0, none⟩) 1 1] w (InsRA w B 101 4 v n (xs.take (i * 4) ++ cs ++ xs.drop (i * 4))) := by
  obtain ⟨i0, ei, ez, ez1, ez2⟩ := info_parts ins_fld_info
  have hc : ∀ (W : World), W.heap[vb]? = w.heap[vb]? → ∀ j u, cs[j]? = some u → W.cell? ⟨vb, j, none⟩ = some u := fun W hW j u hj => by
    rw [cell_of_row W vb j _ _ _ (hW.trans hcs)]; simpa using hj
  have hlen := hown.1
  by_cases hin : i = n
  · subst hin
    have e1 : xs.take (i * 4) ++ cs ++ xs.drop (i * 4) = xs ++ cs := by rw [← hlen, List.take_length, List.drop_length, List.append_nil]
    rw [e1]
    have H := hown
    rcases hown.2 with ⟨rfl, rfl⟩ | ⟨g, o, cap, cur, rfl, hbg, hg, hnc, hcm, hfit, htk⟩
    · go_enter Try.func108, Try.ntmps108
      go_wp2_with (first
        | (at_builtin; refine wpList_append_q2 _ rfl (.tmp 23) (.tmp 24) 102 102 rfl 101 Try.underlying102 B i0 (.agg #[.string .empty, .int .i64 0, .bool false, .bool false]) 4 32 Try.underlying102 ei ez ez1 ez2 rfl (by decide) (.slice none 0 0) 0 xs rfl H (some ⟨vb, 0, none⟩) 1 1 cs rfl (by omega) (fun _ => ⟨_, rfl, fun j u hj => by rw [addr_add, Nat.zero_add]; exact hc w rfl j u hj⟩) h1 (by unfold maxLen; omega) (by omega) hB ?_; intro v7 w7 hown7 hg7 hat7))
      go_ret
      exact ⟨_, rfl, hown7, hg7, at_new hat7⟩
    · go_enter Try.func108, Try.ntmps108
      go_wp2_with (first
        | (at_builtin; refine wpList_append_q2 _ rfl (.tmp 23) (.tmp 24) 102 102 rfl 101 Try.underlying102 B i0 (.agg #[.string .empty, .int .i64 0, .bool false, .bool false]) 4 32 Try.underlying102 ei ez ez1 ez2 rfl (by decide) (.slice (some ⟨g, o, none⟩) i cap) i xs rfl H (some ⟨vb, 0, none⟩) 1 1 cs rfl (by omega) (fun _ => ⟨_, rfl, fun j u hj => by rw [addr_add, Nat.zero_add]; exact hc w rfl j u hj⟩) h1 (by unfold maxLen; omega) (by omega) hB ?_; intro v7 w7 hown7 hg7 hat7))
      all_goals go_ret
      all_goals exact ⟨_, rfl, hown7, hg7, at_new hat7⟩
  · have hlt : i < n := by omega
    rcases hown.2 with ⟨_, h0⟩ | ⟨g, o, cap, cur, rfl, hbg, hg, hnc, hcm, hfit, htk⟩
    · omega
    have hgl : g < w.heap.size := (Array.getElem?_eq_some_iff.1 hg).1
    have hgv : g ≠ vb := fun e => hne (by simp [Value.ownBlock, e])
    have hin' : ¬ ((i : Int) = (n : Int)) := by omega
    have hin2 : decide ((i : Int) = (n : Int)) = false := decide_eq_false hin'
    have hlt' : (i : Int) < (n : Int) := by omega
    have hn' : (n : Int) ≤ 1000000 := by omega
    have hY : Hid (xs.take (i * 4) ++ cs ++ xs.drop (i * 4) = xs.take (i * 4) ++ cs ++ xs.drop (i * 4)) := rfl
    generalize hYY : xs.take (i * 4) ++ cs ++ xs.drop (i * 4) = ys at hY
    by_cases hroom : n + 1 ≤ cap
    · obtain ⟨W1, W2, c1, c2, hfin⟩ := ins_room (P := Try.prog) w B 101 102 102 i0 4 Try.underlying102 ei ez1 (by decide) g o n cap xs hown i hlt vb cs hcl hcs h1 hx1 hgv hroom
      have hap := ins_apart (P := Try.prog) w B 101 102 i0 4 Try.underlying102 ei ez1 (by decide) g o n cap xs hown i hlt vb cs hcl hcs hgv hroom 4
      rw [hYY] at hfin
      rw [show n + 1 - (i + 1) = n - i by omega] at c1
      have C1 := Lib.hid c1
      have C2 := Lib.hid c2
      have HF := Lib.hid hfin
      have HA := Lib.hid hap
      have hr1 : decide ((cap : Int) < (n : Int) + 1) = false := decide_eq_false (by omega)
      have hr2 : ¬ ((cap : Int) < (n : Int) + 1) := by omega
      have hr3 : n + 1 ≤ cap := hroom
      clear c1 c2 hfin hap hown hc h1 hx1 hcs hg hcl htk hlen hYY hY hne ei ez ez1 ez2
      go_enter Try.func108, Try.ntmps108
      go_wp2_with fail
      rw [run_callFunc_extern Try.func126 (by kernel_rfl) (by kernel_rfl) (by kernel_rfl) (e := Extern.SlicesOverlaps.overlaps #[102, 102] #[4]) (by kernel_rfl), HA.out]
      simp only [Result.andThen]
      rw [Oper.upon_value]
      go_wp2_with fail
      refine wp_mid_k 8 _ rfl rfl (by kernel_rfl) (by kernel_rfl) ?_
      simp only [List.take_succ_cons, List.take_zero, List.drop_succ_cons, List.drop_zero]
      repeat (go_big_quiet_step (fail))
      refine wpQuiet_nil ?_
      intro _ hw'
      obtain ⟨nq, hw''⟩ := hw'
      subst hw''
      intro K hK
      refine wp_copy_q _ (.tmp 73) (.tmp 76) _ _ rfl _ _ rfl rfl (C1.out nq _) ?_
      refine hK _ _ ?_
      refine wpQuiet_nil ?_
      intro _ hw'
      obtain ⟨nq2, hw''⟩ := hw'
      subst hw''
      go_wp2_with fail
      rw [C2.out]
      simp only [Result.andThen]
      rw [Oper.upon_value]
      go_wp2_with fail
      go_ret
      exact ⟨_, rfl, (HF.out nq nq2).1, (HF.out nq nq2).2, .inl rfl⟩
    · obtain ⟨G, W1, W2, W3, hG, c0, c1, c2, hfin⟩ := ins_grow (P := Try.prog) w B 101 102 102 3 i0 (.agg #[.string .empty, .int .i64 0, .bool false, .bool false]) 4 32 Try.underlying102 Try.underlying3 ei ez ez1 ez2 rfl (by decide) (by decide) g o n cap xs hown i hlt hn vb cs hcl hcs h1 hx1 hB (by omega)
      rw [hYY] at hfin
      rw [show n + 1 - (i + 1) = n - i by omega] at c2
      have C0 := Lib.hid c0
      have C1 := Lib.hid c1
      have C2 := Lib.hid c2
      have HF := Lib.hid hfin
      have hr1 : decide ((cap : Int) < (n : Int) + 1) = true := decide_eq_true (by omega)
      have hr2 : (cap : Int) < (n : Int) + 1 := by omega
      have hik : i ≤ n + 1 := by omega
      have hG2 : (n : Int) + 1 ≤ (G : Int) := by omega
      have hi1 : i + 1 ≤ n + 1 := by omega
      clear c0 c1 c2 hfin hown hc h1 hx1 hcs hg hcl htk hlen hYY hY hne ei ez ez1 ez2
      go_enter Try.func108, Try.ntmps108
      go_wp2_with (first
        | (at_builtin; refine wpList_append_z _ rfl (.tmp 34) (.tmp 39) _ _ rfl _ _ rfl rfl (C0.out _) ?_)
        | fail)
      rw [C1.out]
      simp only [Result.andThen]
      rw [Oper.upon_value]
      go_wp2_with fail
      go_frame
      refine wp_mid_k 8 _ rfl rfl (by kernel_rfl) (by kernel_rfl) ?_
      simp only [List.take_succ_cons, List.take_zero, List.drop_succ_cons, List.drop_zero]
      repeat (go_big_quiet_step (fail))
      refine wpQuiet_nil ?_
      intro _ hw'
      obtain ⟨nq, hw''⟩ := hw'
      subst hw''
      intro K hK
      refine wp_copy_q _ (.tmp 50) (.tmp 53) _ _ rfl _ _ rfl rfl (C2.out nq _) ?_
      refine hK _ _ ?_
      refine wpQuiet_nil ?_
      intro _ hw'
      obtain ⟨nq2, hw''⟩ := hw'
      subst hw''
      go_wp2_with fail
      go_ret
      exact ⟨_, rfl, (HF.out nq).1.drewN nq2, ((HF.out nq).2 _).drawnN nq2, .inr ⟨w.heap.size, rfl, Nat.le_refl _⟩⟩
theorem ins_fld (w : World) (B : Nat) (v : Value) (n : Nat) (xs : List Value) (hown : Own w B 101 4 v n xs) (i : Nat) (hi : i ≤ n) (vb : Nat) (cs : List Value) (hcl : cs.length = 4)
    (hcs : w.heap[vb]? = some (.cells cs.toArray 101 (0, 0))) (h1 : ∀ u ∈ cs, u.oneCell' = true) (hx1 : ∀ u ∈ xs, u.oneCell' = true) (hne : v.ownBlock ≠ some vb) (hB : B ≤ w.heap.size) (hn : n ≤ 1000000) :
    Calls Try.prog 108 #[v, .int .i64 i, .slice (some ⟨vb, 0, none⟩) 1 1] w (InsR w B 101 4 v n (xs.take (i * 4) ++ cs ++ xs.drop (i * 4))) :=
  (ins_fld_at w B v n xs hown i hi vb cs hcl hcs h1 hx1 hne hB hn).mono fun _ _ h => h.r
theorem ins_prp_info : (Try.prog.info? 26).map (fun i => (i.zero, i.size, i.bytes)) = some (some (.agg #[.string .empty, .int .i64 0, .int .i64 0, .string .empty]), 4, 48) := by kernel_rfl
set_option maxRecDepth 100000 in
set_option maxHeartbeats 8000000 in
theorem ins_prp_at (w : World) (B : Nat) (v : Value) (n : Nat) (xs : List Value) (hown : Own w B 26 4 v n xs) (i : Nat) (hi : i ≤ n) (vb : Nat) (cs : List Value) (hcl : cs.length = 4)
    (hcs : w.heap[vb]? = some (.cells cs.toArray 26 (0, 0))) (h1 : ∀ u ∈ cs, u.oneCell' = true) (hx1 : ∀ u ∈ xs, u.oneCell' = true) (hne : v.ownBlock ≠ some vb) (hB : B ≤ w.heap.size) (hn : n ≤ 1000000) :
    Calls Try.prog 55 #[v, .int .i64 i, .slice (some ⟨vb, 0, none⟩) 1 1] w (InsRA w B 26 4 v n (xs.take (i * 4) ++ cs ++ xs.drop (i * 4))) := by
  obtain ⟨i0, ei, ez, ez1, ez2⟩ := info_parts ins_prp_info
  have hc : ∀ (W : World), W.heap[vb]? = w.heap[vb]? → ∀ j u, cs[j]? = some u → W.cell? ⟨vb, j, none⟩ = some u := fun W hW j u hj => by
    rw [cell_of_row W vb j _ _ _ (hW.trans hcs)]; simpa using hj
  have hlen := hown.1
  by_cases hin : i = n
  · subst hin
    have e1 : xs.take (i * 4) ++ cs ++ xs.drop (i * 4) = xs ++ cs := by rw [← hlen, List.take_length, List.drop_length, List.append_nil]
    rw [e1]
    have H := hown
    rcases hown.2 with ⟨rfl, rfl⟩ | ⟨g, o, cap, cur, rfl, hbg, hg, hnc, hcm, hfit, htk⟩
    · go_enter Try.func55, Try.ntmps55
      go_wp2_with (first
        | (at_builtin; refine wpList_append_q2 _ rfl (.tmp 23) (.tmp 24) 28 27 rfl 26 Try.underlying27 B i0 (.agg #[.string .empty, .int .i64 0, .int .i64 0, .string .empty]) 4 48 Try.underlying28 ei ez ez1 ez2 rfl (by decide) (.slice none 0 0) 0 xs rfl H (some ⟨vb, 0, none⟩) 1 1 cs rfl (by omega) (fun _ => ⟨_, rfl, fun j u hj => by rw [addr_add, Nat.zero_add]; exact hc w rfl j u hj⟩) h1 (by unfold maxLen; omega) (by omega) hB ?_; intro v7 w7 hown7 hg7 hat7))
      go_ret
      exact ⟨_, rfl, hown7, hg7, at_new hat7⟩
    · go_enter Try.func55, Try.ntmps55
      go_wp2_with (first
        | (at_builtin; refine wpList_append_q2 _ rfl (.tmp 23) (.tmp 24) 28 27 rfl 26 Try.underlying27 B i0 (.agg #[.string .empty, .int .i64 0, .int .i64 0, .string .empty]) 4 48 Try.underlying28 ei ez ez1 ez2 rfl (by decide) (.slice (some ⟨g, o, none⟩) i cap) i xs rfl H (some ⟨vb, 0, none⟩) 1 1 cs rfl (by omega) (fun _ => ⟨_, rfl, fun j u hj => by rw [addr_add, Nat.zero_add]; exact hc w rfl j u hj⟩) h1 (by unfold maxLen; omega) (by omega) hB ?_; intro v7 w7 hown7 hg7 hat7))
      all_goals go_ret
      all_goals exact ⟨_, rfl, hown7, hg7, at_new hat7⟩
  · have hlt : i < n := by omega
    rcases hown.2 with ⟨_, h0⟩ | ⟨g, o, cap, cur, rfl, hbg, hg, hnc, hcm, hfit, htk⟩
    · omega
    have hgl : g < w.heap.size := (Array.getElem?_eq_some_iff.1 hg).1
    have hgv : g ≠ vb := fun e => hne (by simp [Value.ownBlock, e])
    have hin' : ¬ ((i : Int) = (n : Int)) := by omega
    have hin2 : decide ((i : Int) = (n : Int)) = false := decide_eq_false hin'
    have hlt' : (i : Int) < (n : Int) := by omega
    have hn' : (n : Int) ≤ 1000000 := by omega
    have hY : Hid (xs.take (i * 4) ++ cs ++ xs.drop (i * 4) = xs.take (i * 4) ++ cs ++ xs.drop (i * 4)) := rfl
    generalize hYY : xs.take (i * 4) ++ cs ++ xs.drop (i * 4) = ys at hY
    by_cases hroom : n + 1 ≤ cap
    · obtain ⟨W1, W2, c1, c2, hfin⟩ := ins_room (P := Try.prog) w B 26 28 27 i0 4 Try.underlying28 ei ez1 (by decide) g o n cap xs hown i hlt vb cs hcl hcs h1 hx1 hgv hroom
      have hap := ins_apart (P := Try.prog) w B 26 27 i0 4 Try.underlying27 ei ez1 (by decide) g o n cap xs hown i hlt vb cs hcl hcs hgv hroom 4
      rw [hYY] at hfin
      rw [show n + 1 - (i + 1) = n - i by omega] at c1
      have C1 := Lib.hid c1
      have C2 := Lib.hid c2
      have HF := Lib.hid hfin
      have HA := Lib.hid hap
      have hr1 : decide ((cap : Int) < (n : Int) + 1) = false := decide_eq_false (by omega)
      have hr2 : ¬ ((cap : Int) < (n : Int) + 1) := by omega
      have hr3 : n + 1 ≤ cap := hroom
      clear c1 c2 hfin hap hown hc h1 hx1 hcs hg hcl htk hlen hYY hY hne ei ez ez1 ez2
      go_enter Try.func55, Try.ntmps55
      go_wp2_with fail
      rw [run_callFunc_extern Try.func86 (by kernel_rfl) (by kernel_rfl) (by kernel_rfl) (e := Extern.SlicesOverlaps.overlaps #[27, 27] #[4]) (by kernel_rfl), HA.out]
      simp only [Result.andThen]
      rw [Oper.upon_value]
      go_wp2_with fail
      refine wp_mid_k 8 _ rfl rfl (by kernel_rfl) (by kernel_rfl) ?_
      simp only [List.take_succ_cons, List.take_zero, List.drop_succ_cons, List.drop_zero]
      repeat (go_big_quiet_step (fail))
      refine wpQuiet_nil ?_
      intro _ hw'
      obtain ⟨nq, hw''⟩ := hw'
      subst hw''
      intro K hK
      refine wp_copy_q _ (.tmp 73) (.tmp 76) _ _ rfl _ _ rfl rfl (C1.out nq _) ?_
      refine hK _ _ ?_
      refine wpQuiet_nil ?_
      intro _ hw'
      obtain ⟨nq2, hw''⟩ := hw'
      subst hw''
      go_wp2_with fail
      rw [C2.out]
      simp only [Result.andThen]
      rw [Oper.upon_value]
      go_wp2_with fail
      go_ret
      exact ⟨_, rfl, (HF.out nq nq2).1, (HF.out nq nq2).2, .inl rfl⟩
    · obtain ⟨G, W1, W2, W3, hG, c0, c1, c2, hfin⟩ := ins_grow (P := Try.prog) w B 26 28 27 3 i0 (.agg #[.string .empty, .int .i64 0, .int .i64 0, .string .empty]) 4 48 Try.underlying28 Try.underlying3 ei ez ez1 ez2 rfl (by decide) (by decide) g o n cap xs hown i hlt hn vb cs hcl hcs h1 hx1 hB (by omega)
      rw [hYY] at hfin
      rw [show n + 1 - (i + 1) = n - i by omega] at c2
      have C0 := Lib.hid c0
      have C1 := Lib.hid c1
      have C2 := Lib.hid c2
      have HF := Lib.hid hfin
      have hr1 : decide ((cap : Int) < (n : Int) + 1) = true := decide_eq_true (by omega)
      have hr2 : (cap : Int) < (n : Int) + 1 := by omega
      have hik : i ≤ n + 1 := by omega
      have hG2 : (n : Int) + 1 ≤ (G : Int) := by omega
      have hi1 : i + 1 ≤ n + 1 := by omega
      clear c0 c1 c2 hfin hown hc h1 hx1 hcs hg hcl htk hlen hYY hY hne ei ez ez1 ez2
      go_enter Try.func55, Try.ntmps55
      go_wp2_with (first
        | (at_builtin; refine wpList_append_z _ rfl (.tmp 34) (.tmp 39) _ _ rfl _ _ rfl rfl (C0.out _) ?_)
        | fail)
      rw [C1.out]
      simp only [Result.andThen]
      rw [Oper.upon_value]
      go_wp2_with fail
      go_frame
      refine wp_mid_k 8 _ rfl rfl (by kernel_rfl) (by kernel_rfl) ?_
      simp only [List.take_succ_cons, List.take_zero, List.drop_succ_cons, List.drop_zero]
      repeat (go_big_quiet_step (fail))
      refine wpQuiet_nil ?_
      intro _ hw'
      obtain ⟨nq, hw''⟩ := hw'
      subst hw''
      intro K hK
      refine wp_copy_q _ (.tmp 50) (.tmp 53) _ _ rfl _ _ rfl rfl (C2.out nq _) ?_
      refine hK _ _ ?_
      refine wpQuiet_nil ?_
      intro _ hw'
      obtain ⟨nq2, hw''⟩ := hw'
      subst hw''
      go_wp2_with fail
      go_ret
      exact ⟨_, rfl, (HF.out nq).1.drewN nq2, ((HF.out nq).2 _).drawnN nq2, .inr ⟨w.heap.size, rfl, Nat.le_refl _⟩⟩
theorem ins_prp (w : World) (B : Nat) (v : Value) (n : Nat) (xs : List Value) (hown : Own w B 26 4 v n xs) (i : Nat) (hi : i ≤ n) (vb : Nat) (cs : List Value) (hcl : cs.length = 4)
    (hcs : w.heap[vb]? = some (.cells cs.toArray 26 (0, 0))) (h1 : ∀ u ∈ cs, u.oneCell' = true) (hx1 : ∀ u ∈ xs, u.oneCell' = true) (hne : v.ownBlock ≠ some vb) (hB : B ≤ w.heap.size) (hn : n ≤ 1000000) :
    Calls Try.prog 55 #[v, .int .i64 i, .slice (some ⟨vb, 0, none⟩) 1 1] w (InsR w B 26 4 v n (xs.take (i * 4) ++ cs ++ xs.drop (i * 4))) :=
  (ins_prp_at w B v n xs hown i hi vb cs hcl hcs h1 hx1 hne hB hn).mono fun _ _ h => h.r
end Go.Proofs.Ythefofclbepkoaa

/- Contracts: what value.Name, value.Check, record.prop and record.Check of the program answer, for every input that is not too long; plain functions on bytes beside them. -/
namespace Go.Proofs.Ythefofclbepkoaa
open Go.RowKit

/-- The place of the first that meets p; -1: none does. -/
def idxI {D : Type} (p : D → Bool) (l : List D) : Int := match l.findIdx? p with | some i => i | none => -1
theorem idxI_hit {D : Type} {p : D → Bool} {l : List D} {k : Nat} {d : D} (h1 : ∀ j x, j < k → l[j]? = some x → p x = false) (h2 : l[k]? = some d) (h3 : p d = true) : idxI p l = k := by
  unfold idxI
  have : l.findIdx? p = some k := by
    rw [List.findIdx?_eq_some_iff_getElem]
    obtain ⟨hk, rfl⟩ := List.getElem?_eq_some_iff.1 h2
    exact ⟨hk, h3, fun j hj => by simp [h1 j _ hj (List.getElem?_eq_getElem (by omega))]⟩
  rw [this]
theorem idxI_miss {D : Type} {p : D → Bool} {l : List D} (h1 : ∀ j x, j < l.length → l[j]? = some x → p x = false) : idxI p l = -1 := by
  unfold idxI
  have : l.findIdx? p = none := by
    rw [List.findIdx?_eq_none_iff]
    intro x hx
    obtain ⟨j, hj, rfl⟩ := List.getElem_of_mem hx
    exact h1 j _ hj (List.getElem?_eq_getElem hj)
  rw [this]
theorem idxI_any {D : Type} (p : D → Bool) (l : List D) : decide ((0 : Int) ≤ idxI p l) = l.any p := by
  unfold idxI
  cases h : l.findIdx? p with
  | none =>
    rw [List.findIdx?_eq_none_iff] at h
    have : l.any p = false := by rw [List.any_eq_false]; intro x hx; simp [h x hx]
    rw [this]; rfl
  | some i =>
    obtain ⟨hi, hp, _⟩ := List.findIdx?_eq_some_iff_getElem.1 h
    have : l.any p = true := List.any_eq_true.2 ⟨_, List.getElem_mem hi, hp⟩
    rw [this]; simp
theorem miss_step {D : Type} {p : D → Bool} {l : List D} {k : Nat} {d : D} (h1 : ∀ j x, j < k → l[j]? = some x → p x = false) (h2 : l[k]? = some d) (h3 : p d = false) : ∀ j x, j < k + 1 → l[j]? = some x → p x = false := by
  intro j x hj hx
  by_cases e : j = k
  · subst e
    have := h2.symm.trans hx
    cases this
    exact h3
  · exact h1 j x (by omega) hx

/-- What is asked of a function value: on each element, in every later world, it answers p and leaves what there was. -/
def PredB {D : Type} (P : Program) (g : Nat) (caps : Array Value) (V : World → D → Value → Prop) (p : D → Bool) (w : World) : Prop :=
  ∀ x u wx, Below w.heap.size w wx → V wx x u → Calls P g (#[u] ++ caps) wx (fun e w' => e = .returned (.bool (p x)) ∧ Below wx.heap.size wx w')

set_option maxHeartbeats 400000 in
theorem idx_byte (g : Nat) (caps : Array Value) (eg : ∀ args w, (callFunc g args).run Try.prog w = .ok (.enter g args) w) (p : UInt8 → Bool) (l : List UInt8) (v : Value) (w : World) (hv : Sl byteL w v l)
    (hp : PredB Try.prog g caps (fun _ x u => u = .int .u8 x.toNat) p w) :
    Calls Try.prog 84 #[v, .func (.func g) #[] caps] w fun e w' => e = .returned (.int .i64 (idxI p l)) ∧ Below w.heap.size w w' := by
  obtain ⟨A, c, rfl, hlc, hcm⟩ := hv.form
  unfold maxLen at hcm
  go_enter Try.func84, Try.ntmps84
  go_wp2_with fail
  go_loopw [8] (fun i wr => ∃ k : Nat, k ≤ l.length ∧ i = .int .i64 k ∧ Below w.heap.size w wr ∧ Hid (∀ j x, j < k → l[j]? = some x → p x = false)) (fun i _ => l.length - (intOf i).toNat)
  case atStart => exact ⟨0, Nat.zero_le _, rfl, Below.refl _ _, fun j x hj => absurd hj (Nat.not_lt_zero _)⟩
  case round =>
    obtain ⟨k, hk, rfl, hb, HA⟩ := hrel
    by_cases hlt : k < l.length
    · obtain ⟨d, hd⟩ : ∃ d, l[k]? = some d := ⟨_, List.getElem?_eq_getElem hlt⟩
      obtain ⟨b, o, rfl, hcell⟩ := byte_at (hv.below hb) hd
      have HD : Hid (l[k]? = some d) := hd
      clear hd
      have hcall := hp d _ wr hb rfl
      clear hp hv
      cases hq : p d with
      | true =>
        rw [hq] at hcall
        have HQ : Hid (p d = true) := hq
        clear hq
        go_wp2_with (go_at_fn g; refine hcall.mono ?_; rintro e w' ⟨rfl, hb2⟩)
        go_ret
        exact ⟨ret_int (idxI_hit HA.out HD.out HQ.out).symm, hb.trans (hb2.mono hb.size)⟩
      | false =>
        rw [hq] at hcall
        have HQ : Hid (p d = false) := hq
        clear hq
        go_wp2_with (go_at_fn g; refine hcall.mono ?_; rintro e w' ⟨rfl, hb2⟩)
        go_roundw
        case rel => exact ⟨k + 1, by omega, by go_num, hb.trans (hb2.mono hb.size), miss_step HA.out HD.out HQ.out⟩
        case measure => simp [intOf]; omega
    · have hkl : k = l.length := by omega
      subst hkl
      go_wp2_with fail
      go_ret
      exact ⟨ret_int (idxI_miss HA.out).symm, hb⟩

theorem has_byte (g : Nat) (caps : Array Value) (eg : ∀ args w, (callFunc g args).run Try.prog w = .ok (.enter g args) w) (p : UInt8 → Bool) (l : List UInt8) (v : Value) (w : World) (hv : Sl byteL w v l)
    (hp : PredB Try.prog g caps (fun _ x u => u = .int .u8 x.toNat) p w) :
    Calls Try.prog 51 #[v, .func (.func g) #[] caps] w fun e w' => e = .returned (.bool (l.any p)) ∧ Below w.heap.size w w' := by
  have h1 := idx_byte g caps eg p l v w hv hp
  have h2 := idxI_any p l
  have H2 := Lib.hid h2
  clear h2 hv hp eg
  go_enter Try.func51, Try.ntmps51
  go_wp2_with (go_at_call 84; refine h1.mono ?_; rintro e w' ⟨rfl, hb⟩)
  go_ret
  exact ⟨ret_bool H2.out, hb⟩

/-- '[]byte(s)': a new row that reads as the text's bytes. -/
theorem bytes_sl (w : World) (s : ByteArray) (hs : Sm s) : Sl byteL (Lib.bytesWorld w 5 s) (.slice (some ⟨w.heap.size, 0, none⟩) s.size (grownCap w s.size 0 5)) s.data.toList ∧ Below w.heap.size w (Lib.bytesWorld w 5 s) := by
  have e : s.data.toList.length = s.size := by rw [Array.length_toList]; rfl
  refine ⟨⟨some ⟨w.heap.size, 0, none⟩, grownCap w s.size 0 5, by rw [e], by rw [e]; exact grownCap_ge _ _ _ _, ?_, ?_⟩, ⟨rfl, rfl, rfl, by rw [Lib.bytesWorld_size]; omega, fun k hk => Lib.bytesWorld_at_old w 5 s k hk⟩⟩
  · exact grownCap_le_maxLen _ _ _ _ (by unfold Sm at hs; unfold maxLen; omega)
  · intro i d hi
    refine ⟨_, _, _, rfl, ⟨rfl, trivial⟩, fun j u hj => ?_⟩
    have hlt : i < s.size := by rw [← e]; exact (List.getElem?_eq_some_iff.1 hi).1
    match j, hj with
    | 0, hj =>
      simp at hj
      subst hj
      have := Lib.bytesWorld_cell w 5 s i hlt
      simpa [byteL, flatL, List.getD, hi] using this

/-! ### value.Name -/
def nameC (c : UInt8) : Bool := decide ((c.toNat : Int) < 97) || decide (122 < (c.toNat : Int))
def nameE (s : ByteArray) : Int := if s.toList.isEmpty then 2 else if 8 < s.size then 2 else if s.data.toList.any nameC then 2 else 0
theorem name1 (c : UInt8) (w : World) :
    Calls Try.prog 81 #[.int .u8 c.toNat] w fun e w' => e = .returned (.bool (nameC c)) ∧ w = w' := by
  unfold nameC
  go_enter Try.func81, Try.ntmps81
  go_wp2
  all_goals go_ret
  all_goals exact ⟨rfl, rfl⟩
theorem name_any (s : ByteArray) (w : World) (hs : Sm s) :
    Calls Try.prog 43 #[.string s] w fun e w' => e = .returned (errV (nameE s)) ∧ Below w.heap.size w w' := by
  have hcv := fun wx => Lib.run_convert_string_bytes (P := Try.prog) wx 9 125 5 s Try.underlying9 Try.underlying125 Try.underlying5
  obtain ⟨hsl, hb⟩ := bytes_sl w s hs
  have hcall := has_byte 81 #[] (by intro args w; kernel_rfl) nameC s.data.toList _ _ hsl (fun x u wx _ hu => by subst hu; exact (name1 x wx).mono fun e w' ⟨h1, h2⟩ => ⟨h1, h2 ▸ Below.refl _ _⟩)
  have HF : Hid (nameE s = if s.toList.isEmpty then 2 else if 8 < s.size then 2 else if s.data.toList.any nameC then 2 else 0) := rfl
  clear hsl
  have hs' : s.size ≤ 1048576 := hs
  clear hs
  by_cases h0 : s.toList.isEmpty = true
  · have HE : Hid (errV (nameE s) = .iface 82 (.int .i64 2)) := by rw [HF.out, if_pos h0]; rfl
    clear hcall
    go_enter Try.func43, Try.ntmps43
    go_wp2_with fail
    go_ret
    exact ⟨by rw [HE.out]; rfl, Below.refl _ _⟩
  · have h0' : s.toList.isEmpty = false := by simpa using h0
    by_cases h8 : 8 < s.size
    · have HE : Hid (errV (nameE s) = .iface 82 (.int .i64 2)) := by rw [HF.out, if_neg h0, if_pos h8]; rfl
      have h8' : (8 : Int) < (s.size : Int) := by omega
      clear hcall h0
      go_enter Try.func43, Try.ntmps43
      go_wp2_with fail
      go_ret
      exact ⟨by rw [HE.out]; rfl, Below.refl _ _⟩
    · have h8' : decide ((8 : Int) < (s.size : Int)) = false := by simp; omega
      have h8'' : (s.size : Int) ≤ 8 := by omega
      clear h0
      cases hq : s.data.toList.any nameC with
      | true =>
        have HE : Hid (errV (nameE s) = .iface 82 (.int .i64 2)) := by rw [HF.out, h0', if_neg (by simp), if_neg h8, hq]; rfl
        rw [hq] at hcall
        clear hq
        go_enter Try.func43, Try.ntmps43
        go_wp2_with (go_at_call 51; refine hcall.mono ?_; rintro e w' ⟨rfl, hb2⟩)
        go_ret
        exact ⟨by rw [HE.out]; rfl, hb.trans (hb2.mono hb.size)⟩
      | false =>
        have HE : Hid (errV (nameE s) = .nilIface) := by rw [HF.out, h0', if_neg (by simp), if_neg h8, hq]; rfl
        rw [hq] at hcall
        clear hq
        go_enter Try.func43, Try.ntmps43
        go_wp2_with (go_at_call 51; refine hcall.mono ?_; rintro e w' ⟨rfl, hb2⟩)
        go_ret
        exact ⟨by rw [HE.out]; rfl, hb.trans (hb2.mono hb.size)⟩
end Go.Proofs.Ythefofclbepkoaa
