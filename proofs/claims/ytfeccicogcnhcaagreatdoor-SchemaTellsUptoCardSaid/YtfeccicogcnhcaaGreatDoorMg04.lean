/- Parts: InsB, RecA, RecB, GrA, GrB, FindA, FindB, OwnF, CloA, Same, Cmp, RecS, GrC, TieP, VtT, VtC. -/
import Derived.Test.YtfeccicogcnhcaaGreatDoorMg03
import Derived.Test.YtfeccicogcnhcaaGreatDoorRows
import Derived.Maps.RangeWalk
import Derived.Test.YtfeccicogcnhcaaGreatDoorMg01
import Derived.Lib.Bytealg
import Derived.StillTailTactics
import Derived.Sort.Walk0
import Derived.WalkSpells
import Derived.Lib.SliceRun
import Derived.Lib.Join
import Derived.Lib.Split
import Derived.Lib.CutLaws
/- Contract: slices.Insert of one element into a slice that the call owns. -/
namespace Go.Proofs.YtfeccicogcnhcaaGreatDoor
open Go Go.RowKit

/-- The outcome: the new slice, of the call's own; nothing else has turned. -/
def InsR (w : World) (B : Nat) (e : TypeId) (sz : Nat) (v : Value) (n : Nat) (ys : List Value) (ed : Ending) (w' : World) : Prop :=
  ∃ v', ed = .returned v' ∧ Own w' B e sz v' (n + 1) ys ∧ w.grownBy w' v.ownBlock

/-- .. and where the new one lies. -/
def InsRA (w : World) (B : Nat) (e : TypeId) (sz : Nat) (v : Value) (n : Nat) (ys : List Value) (ed : Ending) (w' : World) : Prop :=
  ∃ v', ed = .returned v' ∧ Own w' B e sz v' (n + 1) ys ∧ w.grownBy w' v.ownBlock ∧ (v'.ownBlock = v.ownBlock ∨ ∃ k, v'.ownBlock = some k ∧ w.heap.size ≤ k)
theorem InsRA.r {w : World} {B : Nat} {e : TypeId} {sz : Nat} {v : Value} {n : Nat} {ys : List Value} {ed : Ending} {w' : World} (h : InsRA w B e sz v n ys ed w') : InsR w B e sz v n ys ed w' := by
  obtain ⟨v', h1, h2, h3, _⟩ := h
  exact ⟨v', h1, h2, h3⟩
theorem at_new {a b : Option Nat} {n : Nat} (h : a = b ∨ a = some n) : a = b ∨ ∃ k, a = some k ∧ n ≤ k := h.imp id fun h => ⟨n, h, Nat.le_refl _⟩
theorem _root_.Go.World.grownBy.drawnN {w w' : World} {row : Option Nat} (h : w.grownBy w' row) (n : Nat) : w.grownBy (w'.drewN n) row := ⟨h.os, h.tape, h.output, h.size, h.block⟩

theorem append_t2 {P : Program} (w : World) {t t2 e : TypeId} (ty : TypeId) (ht : P.underlying t = some (.slice e)) (ht2 : P.underlying t2 = some (.slice e)) (a b : Value) :
    (Builtin.append_ #[t, t2] ty #[a, b]).run P w = (Builtin.append_ #[t, t] ty #[a, b]).run P w := by
  have h1 := fun w => run_underlying (w := w) ht
  have h2 := fun w => run_underlying (w := w) ht2
  unfold Builtin.append_
  simp only [List.getElem?_toArray, List.getElem?_cons_zero, List.getElem?_cons_succ, Sem.run_bind, h1, Result.andThen_ok]
  cases a <;> simp only [Sem.run_bind, h1, h2, Result.andThen_ok]
theorem wpList_append_q2 {P : Program} (w : World) {ops : Array Oper} {rest : List Oper} {o : Oper} {a : Act} {Q : Exit → Act → World → Prop} (hgd : o.guard = none) (s x : Operand) (t t2 : TypeId)
    (ho : o.op = .call { callee := .builtin .append, args := #[s, x], argTypes := #[t, t2] }) (e : TypeId) (ht2 : P.underlying t2 = some (.slice e))
    (B : Nat) (i : TypeInfo) (z : Value) (size bytes : Nat) (ht : P.underlying t = some (.slice e)) (hi : P.info? e = some i) (hz : i.zero = some z)
    (hsize : i.size = size) (hby : i.bytes = bytes) (hzs : z.cells.size = size) (hsz : 0 < size)
    (v : Value) (n : Nat) (xs : List Value) (hs : a.eval s = v) (hown : Own w B e size v n xs)
    (A : Option Addr) (m c : Nat) (news : List Value) (hx : a.eval x = .slice A m c) (hl : news.length = m * size) (hA : 0 < m → ∃ a, A = some a ∧ ∀ j u, news[j]? = some u → w.cell? (a.add j) = some u) (h1 : ∀ u ∈ news, u.oneCell' = true)
    (h63 : n + m ≤ maxLen) (hbytes : (n + m) * bytes ≤ 140737488355328) (hbase : B ≤ w.heap.size)
    (h : ∀ v' w', Own w' B e size v' (n + m) (xs ++ news) → w.grownBy w' v.ownBlock → (v'.ownBlock = v.ownBlock ∨ v'.ownBlock = some w.heap.size) → wpList P ops Q rest (a.put o.dst v') w') : wpList P ops Q (o :: rest) a w :=
  wpList_plain hgd fun K hK => by
    obtain ⟨v', w', hr, h2, h3, h4⟩ := run_append_q (P := P) w B t o.type e i z size bytes ht hi hz hsize hby hzs hsz v n xs hown A m c news hl hA h1 h63 hbytes hbase
    have hr2 := (append_t2 w o.type ht ht2 v (.slice A m c)).trans hr
    unfold Oper.wp execOp
    simp only [ho, resolve, invoke, builtin, Sem.run_bind, Sem.run_pure, Result.andThen_ok, List.map_toArray, List.map_cons, List.map_nil, hs, hx, hr2]
    exact hK _ _ (h v' w' h2 h3 h4)

theorem ins_fld_info : (Tryz.prog.info? 61).map (fun i => (i.zero, i.size, i.bytes)) = some (some (.agg #[.string .empty, .int .i64 0, .bool false, .bool false]), 4, 32) := by kernel_rfl
set_option maxRecDepth 100000 in
set_option maxHeartbeats 8000000 in
theorem ins_fld_at (w : World) (B : Nat) (v : Value) (n : Nat) (xs : List Value) (hown : Own w B 61 4 v n xs) (i : Nat) (hi : i ≤ n) (vb : Nat) (cs : List Value) (hcl : cs.length = 4)
    (hcs : w.heap[vb]? = some (.cells cs.toArray 61 (0, 0))) (h1 : ∀ u ∈ cs, u.oneCell' = true) (hx1 : ∀ u ∈ xs, u.oneCell' = true) (hne : v.ownBlock ≠ some vb) (hB : B ≤ w.heap.size) (hn : n ≤ 1000000) :
    Calls Tryz.prog 95 #[v, .int .i64 i, .slice (some ⟨vb, 0, none⟩) 1 1] w (InsRA w B 61 4 v n (xs.take (i * 4) ++ cs ++ xs.drop (i * 4))) := by
  obtain ⟨i0, ei, ez, ez1, ez2⟩ := info_parts ins_fld_info
  have hc : ∀ (W : World), W.heap[vb]? = w.heap[vb]? → ∀ j u, cs[j]? = some u → W.cell? ⟨vb, j, none⟩ = some u := fun W hW j u hj => by
    rw [cell_of_row W vb j _ _ _ (hW.trans hcs)]; simpa using hj
  have hlen := hown.1
  by_cases hin : i = n
  · subst hin
    have e1 : xs.take (i * 4) ++ cs ++ xs.drop (i * 4) = xs ++ cs := by rw [← hlen, List.take_length, List.drop_length, List.append_nil]
    rw [e1]
    have H := hown
    rcases hown.2 with ⟨rfl, rfl⟩ | ⟨g, o, cap, cur, rfl, hbg, hg, hnc, hcm, hfit, htk⟩
    · go_enter Tryz.func95, Tryz.ntmps95
      go_wp2_with (first
        | (at_builtin; refine wpList_append_q2 _ rfl (.tmp 23) (.tmp 24) 57 57 rfl 61 Tryz.underlying57 B i0 (.agg #[.string .empty, .int .i64 0, .bool false, .bool false]) 4 32 Tryz.underlying57 ei ez ez1 ez2 rfl (by decide) (.slice none 0 0) 0 xs rfl H (some ⟨vb, 0, none⟩) 1 1 cs rfl (by omega) (fun _ => ⟨_, rfl, fun j u hj => by rw [addr_add, Nat.zero_add]; exact hc w rfl j u hj⟩) h1 (by unfold maxLen; omega) (by omega) hB ?_; intro v7 w7 hown7 hg7 hat7))
      go_ret
      exact ⟨_, rfl, hown7, hg7, at_new hat7⟩
    · go_enter Tryz.func95, Tryz.ntmps95
      go_wp2_with (first
        | (at_builtin; refine wpList_append_q2 _ rfl (.tmp 23) (.tmp 24) 57 57 rfl 61 Tryz.underlying57 B i0 (.agg #[.string .empty, .int .i64 0, .bool false, .bool false]) 4 32 Tryz.underlying57 ei ez ez1 ez2 rfl (by decide) (.slice (some ⟨g, o, none⟩) i cap) i xs rfl H (some ⟨vb, 0, none⟩) 1 1 cs rfl (by omega) (fun _ => ⟨_, rfl, fun j u hj => by rw [addr_add, Nat.zero_add]; exact hc w rfl j u hj⟩) h1 (by unfold maxLen; omega) (by omega) hB ?_; intro v7 w7 hown7 hg7 hat7))
      all_goals go_ret
      all_goals exact ⟨_, rfl, hown7, hg7, at_new hat7⟩
  · have hlt : i < n := by omega
    rcases hown.2 with ⟨_, h0⟩ | ⟨g, o, cap, cur, rfl, hbg, hg, hnc, hcm, hfit, htk⟩
    · omega
    have hgl : g < w.heap.size := (Array.getElem?_eq_some_iff.1 hg).1
    have hgv : g ≠ vb := fun e => hne (by simp [Value.ownBlock, e])
    have hin' : ¬ ((i : Int) = (n : Int)) := by omega
    have hin2 : decide ((i : Int) = (n : Int)) = false := decide_eq_false hin'
    have hlt' : (i : Int) < (n : Int) := by omega
    have hn' : (n : Int) ≤ 1000000 := by omega
    have hY : Hid (xs.take (i * 4) ++ cs ++ xs.drop (i * 4) = xs.take (i * 4) ++ cs ++ xs.drop (i * 4)) := rfl
    generalize hYY : xs.take (i * 4) ++ cs ++ xs.drop (i * 4) = ys at hY
    by_cases hroom : n + 1 ≤ cap
    · obtain ⟨W1, W2, c1, c2, hfin⟩ := ins_room (P := Tryz.prog) w B 61 57 57 i0 4 Tryz.underlying57 ei ez1 (by decide) g o n cap xs hown i hlt vb cs hcl hcs h1 hx1 hgv hroom
      have hap := ins_apart (P := Tryz.prog) w B 61 57 i0 4 Tryz.underlying57 ei ez1 (by decide) g o n cap xs hown i hlt vb cs hcl hcs hgv hroom 4
      rw [hYY] at hfin
      rw [show n + 1 - (i + 1) = n - i by omega] at c1
      have C1 := Lib.hid c1
      have C2 := Lib.hid c2
      have HF := Lib.hid hfin
      have HA := Lib.hid hap
      have hr1 : decide ((cap : Int) < (n : Int) + 1) = false := decide_eq_false (by omega)
      have hr2 : ¬ ((cap : Int) < (n : Int) + 1) := by omega
      have hr3 : n + 1 ≤ cap := hroom
      clear c1 c2 hfin hap hown hc h1 hx1 hcs hg hcl htk hlen hYY hY hne ei ez ez1 ez2
      go_enter Tryz.func95, Tryz.ntmps95
      go_wp2_with fail
      rw [run_callFunc_extern Tryz.func116 (by kernel_rfl) (by kernel_rfl) (by kernel_rfl) (e := Extern.SlicesOverlaps.overlaps #[57, 57] #[4]) (by kernel_rfl), HA.out]
      simp only [Result.andThen]
      rw [Oper.upon_value]
      go_wp2_with fail
      refine wp_mid_k 8 _ rfl rfl (by kernel_rfl) (by kernel_rfl) ?_
      simp only [List.take_succ_cons, List.take_zero, List.drop_succ_cons, List.drop_zero]
      repeat (go_big_quiet_step (fail))
      refine wpQuiet_nil ?_
      intro _ hw'
      obtain ⟨nq, hw''⟩ := hw'
      subst hw''
      intro K hK
      refine wp_copy_q _ (.tmp 73) (.tmp 76) _ _ rfl _ _ rfl rfl (C1.out nq _) ?_
      refine hK _ _ ?_
      refine wpQuiet_nil ?_
      intro _ hw'
      obtain ⟨nq2, hw''⟩ := hw'
      subst hw''
      go_wp2_with fail
      rw [C2.out]
      simp only [Result.andThen]
      rw [Oper.upon_value]
      go_wp2_with fail
      go_ret
      exact ⟨_, rfl, (HF.out nq nq2).1, (HF.out nq nq2).2, .inl rfl⟩
    · obtain ⟨G, W1, W2, W3, hG, c0, c1, c2, hfin⟩ := ins_grow (P := Tryz.prog) w B 61 57 57 3 i0 (.agg #[.string .empty, .int .i64 0, .bool false, .bool false]) 4 32 Tryz.underlying57 Tryz.underlying3 ei ez ez1 ez2 rfl (by decide) (by decide) g o n cap xs hown i hlt hn vb cs hcl hcs h1 hx1 hB (by omega)
      rw [hYY] at hfin
      rw [show n + 1 - (i + 1) = n - i by omega] at c2
      have C0 := Lib.hid c0
      have C1 := Lib.hid c1
      have C2 := Lib.hid c2
      have HF := Lib.hid hfin
      have hr1 : decide ((cap : Int) < (n : Int) + 1) = true := decide_eq_true (by omega)
      have hr2 : (cap : Int) < (n : Int) + 1 := by omega
      have hik : i ≤ n + 1 := by omega
      have hG2 : (n : Int) + 1 ≤ (G : Int) := by omega
      have hi1 : i + 1 ≤ n + 1 := by omega
      clear c0 c1 c2 hfin hown hc h1 hx1 hcs hg hcl htk hlen hYY hY hne ei ez ez1 ez2
      go_enter Tryz.func95, Tryz.ntmps95
      go_wp2_with (first
        | (at_builtin; refine wpList_append_z _ rfl (.tmp 34) (.tmp 39) _ _ rfl _ _ rfl rfl (C0.out _) ?_)
        | fail)
      rw [C1.out]
      simp only [Result.andThen]
      rw [Oper.upon_value]
      go_wp2_with fail
      go_frame
      refine wp_mid_k 8 _ rfl rfl (by kernel_rfl) (by kernel_rfl) ?_
      simp only [List.take_succ_cons, List.take_zero, List.drop_succ_cons, List.drop_zero]
      repeat (go_big_quiet_step (fail))
      refine wpQuiet_nil ?_
      intro _ hw'
      obtain ⟨nq, hw''⟩ := hw'
      subst hw''
      intro K hK
      refine wp_copy_q _ (.tmp 50) (.tmp 53) _ _ rfl _ _ rfl rfl (C2.out nq _) ?_
      refine hK _ _ ?_
      refine wpQuiet_nil ?_
      intro _ hw'
      obtain ⟨nq2, hw''⟩ := hw'
      subst hw''
      go_wp2_with fail
      go_ret
      exact ⟨_, rfl, (HF.out nq).1.drewN nq2, ((HF.out nq).2 _).drawnN nq2, .inr ⟨w.heap.size, rfl, Nat.le_refl _⟩⟩
theorem ins_fld (w : World) (B : Nat) (v : Value) (n : Nat) (xs : List Value) (hown : Own w B 61 4 v n xs) (i : Nat) (hi : i ≤ n) (vb : Nat) (cs : List Value) (hcl : cs.length = 4)
    (hcs : w.heap[vb]? = some (.cells cs.toArray 61 (0, 0))) (h1 : ∀ u ∈ cs, u.oneCell' = true) (hx1 : ∀ u ∈ xs, u.oneCell' = true) (hne : v.ownBlock ≠ some vb) (hB : B ≤ w.heap.size) (hn : n ≤ 1000000) :
    Calls Tryz.prog 95 #[v, .int .i64 i, .slice (some ⟨vb, 0, none⟩) 1 1] w (InsR w B 61 4 v n (xs.take (i * 4) ++ cs ++ xs.drop (i * 4))) :=
  (ins_fld_at w B v n xs hown i hi vb cs hcl hcs h1 hx1 hne hB hn).mono fun _ _ h => h.r
open Go.RowKit

/-- The fault of the first that has one; 0: none has. -/
def firstE {D : Type} (f : D → Int) : List D → Int
  | [] => 0
  | d :: r => if f d = 0 then firstE f r else f d
/-- Each is ahead of the next one. -/
def chain {D : Type} (R : D → D → Bool) : List D → Bool
  | a :: b :: r => R a b && chain R (b :: r)
  | _ => true
theorem chain_iff {D : Type} {R : D → D → Bool} : ∀ {l : List D}, chain R l = true ↔ ∀ i a b, l[i]? = some a → l[i + 1]? = some b → R a b = true
  | [] => by simp [chain]
  | [a] => by simp [chain]
  | a :: b :: r => by
    simp only [chain, Bool.and_eq_true]
    rw [chain_iff (l := b :: r)]
    constructor
    · rintro ⟨h1, h2⟩ i x y hx hy
      match i, hx, hy with
      | 0, hx, hy => simp at hx hy; subst hx; subst hy; exact h1
      | i + 1, hx, hy => exact h2 i x y (by simpa using hx) (by simpa using hy)
    · intro h
      exact ⟨h 0 a b rfl rfl, fun i x y hx hy => h (i + 1) x y (by simpa using hx) (by simpa using hy)⟩
/-- Is a text ahead of another one? -/
def ltS (a b : ByteArray) : Bool := Op.bytesLess a.toList b.toList

/-! ### record.prop, record.Check -/
def prpE (p : Prp) : Int := if nameE p.name = 0 then valE p.v else nameE p.name
def recE (r : List Prp) : Int := if 8 < r.length then 4 else if firstE prpE r = 0 then (if chain (fun a b => ltS a.name b.name) r then 0 else 7) else firstE prpE r



def cmpI (a b : Int) : Int := if a < b then -1 else if b < a then 1 else 0
/-- Texts by bytes: -1, 0, 1. -/
def cmpS (a b : ByteArray) : Int := Lib.compareBytes a.data.toList b.data.toList
set_option maxHeartbeats 1000000 in
set_option maxRecDepth 100000 in
theorem cmpString_any (a b : ByteArray) (w : World) :
    Calls Tryz.prog 115 #[.string a, .string b] w fun e w' => e = .returned (.int .i64 (cmpS a b)) ∧ w = w' := by
  go_enter Tryz.func115, Tryz.ntmps115
  go_wp2_with fail
  rw [run_callFunc_extern Tryz.func136 (by kernel_rfl) (by kernel_rfl) (by kernel_rfl) (e := Extern.BytealgCompare.compare) (by kernel_rfl), Lib.run_compareString]
  simp only [Result.andThen]
  rw [Oper.upon_value]
  go_wp2_with fail
  go_ret
  exact ⟨rfl, rfl⟩
theorem scmp_any (a b : ByteArray) (w : World) :
    Calls Tryz.prog 94 #[.string a, .string b] w fun e w' => e = .returned (.int .i64 (cmpS a b)) ∧ w = w' := by
  go_enter Tryz.func94, Tryz.ntmps94
  go_wp2_with (go_at_call 115; refine (cmpString_any _ _ _).mono ?_; rintro e w' ⟨rfl, rfl⟩)
  go_ret
  exact ⟨rfl, rfl⟩

theorem heap_at_new (W : World) (o : Obj) (b : Nat) (hb : b = W.heap.size) : (W.alloc o).heap[b]? = some o := by subst hb; exact heap_alloc_new _ _

/-! ### graph.OfNode, graph.OfTie, graph.Order -/

/-- The one ahead of place k. -/
def prev {D : Type} (l : List D) : Nat → Option D
  | 0 => none
  | k + 1 => l[k]?
theorem drop_cons {D : Type} {l : List D} {k : Nat} {d : D} (h : l[k]? = some d) : l.drop k = d :: l.drop (k + 1) := by
  obtain ⟨hk, rfl⟩ := List.getElem?_eq_some_iff.1 h
  exact List.drop_eq_getElem_cons hk

theorem cell_box3 (w : World) (a b c : Value) (t : TypeId) : (w.alloc (.cells #[a, b, c] t)).cell? ⟨w.heap.size, 0, none⟩ = some a ∧ (w.alloc (.cells #[a, b, c] t)).cell? ⟨w.heap.size, 1, none⟩ = some b ∧
    (w.alloc (.cells #[a, b, c] t)).cell? ⟨w.heap.size, 2, none⟩ = some c :=
  ⟨by rw [World.cell?_alloc_at _ _ _ _ rfl]; rfl, by rw [World.cell?_alloc_at _ _ _ _ rfl]; rfl, by rw [World.cell?_alloc_at _ _ _ _ rfl]; rfl⟩
theorem cell_box2 (w : World) (a b : Value) (t : TypeId) : (w.alloc (.cells #[a, b] t)).cell? ⟨w.heap.size, 0, none⟩ = some a ∧ (w.alloc (.cells #[a, b] t)).cell? ⟨w.heap.size, 1, none⟩ = some b :=
  ⟨by rw [World.cell?_alloc_at _ _ _ _ rfl]; rfl, by rw [World.cell?_alloc_at _ _ _ _ rfl]; rfl⟩


/-- What is asked of a comparing function value. -/
def CmpB {D : Type} (P : Program) (g : Nat) (caps : Array Value) (V : World → D → Value → Prop) (tv : Value) (c : D → Int) (w : World) : Prop :=
  ∀ x u wx, Below w.heap.size w wx → V wx x u → Calls P g (#[u, tv] ++ caps) wx (fun e w' => e = .returned (.int .i64 (c x)) ∧ Below wx.heap.size wx w')
/-- Is there one at that place that compares equal? -/
def eqAt {D : Type} (c : D → Int) (l : List D) (pos : Nat) : Bool := match l[pos]? with | some d => c d == 0 | none => false


/-- The first place at which c is not below 0. -/
def lowI {D : Type} (c : D → Int) (l : List D) : Nat := l.findIdx (fun d => decide (0 ≤ c d))
theorem lowI_le {D : Type} (c : D → Int) (l : List D) : lowI c l ≤ l.length := List.findIdx_le_length
theorem low_lt {D : Type} {c : D → Int} {l : List D} {i : Nat} {d : D} (h : i < lowI c l) (hi : l[i]? = some d) : c d < 0 := by
  obtain ⟨hl, rfl⟩ := List.getElem?_eq_some_iff.1 hi
  have := List.not_of_lt_findIdx h
  simp at this
  omega
theorem low_ge {D : Type} {R : D → D → Bool} {c : D → Int} {l : List D} (hc : chain R l = true) (mono : ∀ a b, R a b = true → 0 ≤ c a → 0 ≤ c b) :
    ∀ {i : Nat} {d : D}, lowI c l ≤ i → l[i]? = some d → 0 ≤ c d := by
  intro i
  induction i with
  | zero =>
    intro d h hi
    obtain ⟨hl, rfl⟩ := List.getElem?_eq_some_iff.1 hi
    have h0 : lowI c l = 0 := by omega
    have := List.findIdx_getElem (xs := l) (p := fun d => decide (0 ≤ c d)) (w := by show lowI c l < _; omega)
    simp only [decide_eq_true_eq] at this
    have e : List.findIdx (fun d => decide (0 ≤ c d)) l = 0 := h0
    simp only [e] at this
    exact this
  | succ i ih =>
    intro d h hi
    rcases Nat.lt_or_ge i (lowI c l) with h1 | h1
    · have h0 : lowI c l = i + 1 := by omega
      obtain ⟨hl, rfl⟩ := List.getElem?_eq_some_iff.1 hi
      have := List.findIdx_getElem (xs := l) (p := fun d => decide (0 ≤ c d)) (w := by show lowI c l < _; omega)
      simp only [decide_eq_true_eq] at this
      have e : List.findIdx (fun d => decide (0 ≤ c d)) l = i + 1 := h0
      simp only [e] at this
      exact this
    · have hl : i < l.length := by have := (List.getElem?_eq_some_iff.1 hi).1; omega
      have h2 := ih (d := l[i]) h1 (List.getElem?_eq_getElem hl)
      exact mono _ _ (chain_iff.1 hc i _ _ (List.getElem?_eq_getElem hl) hi) h2

/-! ### Nodes by number -/
def nodC (id : Int) (n : Nod) : Int := cmpI n.id id
def fpos (l : List Nod) (id : Int) : Nat := lowI (nodC id) l
/-! ### Properties by name -/

section
variable {D : Type} {n : Nat} {enc : D → List Value}
theorem flat_len (hn : ∀ d, (enc d).length = n) : ∀ (l : List D), (l.flatMap enc).length = l.length * n
  | [] => by simp
  | a :: l => by rw [List.flatMap_cons, List.length_append, hn, flat_len hn l, List.length_cons, Nat.add_mul]; omega
theorem flat_get (hn : ∀ d, (enc d).length = n) : ∀ {l : List D} {i j : Nat} {d : D} {u : Value}, l[i]? = some d → (enc d)[j]? = some u → (l.flatMap enc)[i * n + j]? = some u
  | [], i, j, d, u, h, _ => by simp at h
  | a :: l, 0, j, d, u, h, hu => by
    simp at h; subst h
    rw [List.flatMap_cons, Nat.zero_mul, Nat.zero_add, List.getElem?_append_left (List.getElem?_eq_some_iff.1 hu).1]; exact hu
  | a :: l, i + 1, j, d, u, h, hu => by
    rw [List.flatMap_cons, List.getElem?_append_right (by rw [hn, Nat.add_mul]; omega), hn]
    have : (i + 1) * n + j - n = i * n + j := by rw [Nat.add_mul]; omega
    rw [this]
    exact flat_get hn (by simpa using h) hu
theorem flat_take (hn : ∀ d, (enc d).length = n) (l : List D) (i : Nat) (hi : i ≤ l.length) : (l.flatMap enc).take (i * n) = (l.take i).flatMap enc := by
  conv => lhs; rw [← List.take_append_drop i l]
  rw [List.flatMap_append, List.take_append_of_le_length (by rw [flat_len hn]; simp [Nat.min_eq_left hi]), List.take_of_length_le (by rw [flat_len hn]; simp [Nat.min_eq_left hi])]
theorem flat_drop (hn : ∀ d, (enc d).length = n) (l : List D) (i : Nat) (hi : i ≤ l.length) : (l.flatMap enc).drop (i * n) = (l.drop i).flatMap enc := by
  conv => lhs; rw [← List.take_append_drop i l]
  rw [List.flatMap_append, List.drop_append_of_le_length (by rw [flat_len hn]; simp [Nat.min_eq_left hi]), List.drop_of_length_le (by rw [flat_len hn]; simp [Nat.min_eq_left hi]), List.nil_append]
theorem flat_insert (hn : ∀ d, (enc d).length = n) (l : List D) (i : Nat) (hi : i ≤ l.length) (d : D) :
    (l.flatMap enc).take (i * n) ++ enc d ++ (l.flatMap enc).drop (i * n) = (l.take i ++ d :: l.drop i).flatMap enc := by
  rw [flat_take hn l i hi, flat_drop hn l i hi, List.flatMap_append, List.flatMap_cons, List.append_assoc]
theorem Own.flat {w : World} {B : Nat} {e : TypeId} {v : Value} {l : List D} {ok : D → Prop} (hn : ∀ d, (enc d).length = n) (hl : ∀ x ∈ l, ok x) (h : Own w B e n v l.length (l.flatMap enc)) : Sl (flatL n ok enc hn) w v l := by
  obtain ⟨A, c, rfl, h1, h2⟩ := h.form
  refine ⟨A, c, rfl, h1, h2, fun i d hi => ?_⟩
  obtain ⟨g, o, c', hv, _, _⟩ := h.addr (len_pos hi)
  injection hv with hA _ hc
  subst hA; subst hc
  exact ⟨g, o, _, rfl, ⟨rfl, hl d (List.mem_of_getElem? hi)⟩, fun j u hj => h.cell rfl (flat_get hn hi hj)⟩
end
theorem Fld.enc_len (d : Fld) : d.enc.length = 4 := rfl
theorem Prp.enc_len (d : Prp) : d.enc.length = 4 := rfl
theorem Tie.enc_len (d : Tie) : d.enc.length = 3 := rfl
theorem Bnd.enc_len (d : Bnd) : d.enc.length = 5 := rfl
theorem Own.flds {w : World} {B : Nat} {e : TypeId} {v : Value} {l : List Fld} (h : Own w B e 4 v l.length (l.flatMap Fld.enc)) (hl : ∀ x ∈ l, x.ok) : Sl fldL w v l := h.flat Fld.enc_len hl
theorem Own.ties {w : World} {B : Nat} {e : TypeId} {v : Value} {l : List Tie} (h : Own w B e 3 v l.length (l.flatMap Tie.enc)) (hl : ∀ x ∈ l, x.ok) : Sl tieL w v l := h.flat Tie.enc_len hl
theorem Own.bnds {w : World} {B : Nat} {e : TypeId} {v : Value} {l : List Bnd} (h : Own w B e 5 v l.length (l.flatMap Bnd.enc)) (hl : ∀ x ∈ l, x.ok) : Sl bndL w v l := h.flat Bnd.enc_len hl
theorem oneCell_flat {D : Type} {enc : D → List Value} (h1 : ∀ d, ∀ u ∈ enc d, u.oneCell' = true) (l : List D) : ∀ u ∈ l.flatMap enc, u.oneCell' = true := by
  intro u hu
  obtain ⟨d, _, hd⟩ := List.mem_flatMap.1 hu
  exact h1 d u hd
theorem Fld.enc_one (d : Fld) : ∀ u ∈ d.enc, u.oneCell' = true := by intro u hu; simp [Fld.enc] at hu; rcases hu with rfl | rfl | rfl | rfl <;> rfl
theorem Prp.enc_one (d : Prp) : ∀ u ∈ d.enc, u.oneCell' = true := by intro u hu; simp [Prp.enc] at hu; rcases hu with rfl | rfl | rfl | rfl <;> rfl
theorem Tie.enc_one (d : Tie) : ∀ u ∈ d.enc, u.oneCell' = true := by intro u hu; simp [Tie.enc] at hu; rcases hu with rfl | rfl | rfl <;> rfl
theorem Bnd.enc_one (d : Bnd) : ∀ u ∈ d.enc, u.oneCell' = true := by intro u hu; simp [Bnd.enc] at hu; rcases hu with rfl | rfl | rfl | rfl | rfl <;> rfl

section
variable {D : Type} {L : Lay D}
/-- The cells xs are the list's, one behind the other. -/
def Row (L : Lay D) (w : World) : List D → List Value → Prop
  | [], xs => xs = []
  | d :: l, xs => ∃ cs ys, xs = cs ++ ys ∧ L.cells w d cs ∧ Row L w l ys
theorem Row.nil (w : World) : Row L w [] [] := rfl
theorem Row.len {w : World} : ∀ {l : List D} {xs : List Value}, Row L w l xs → xs.length = l.length * L.sz
  | [], xs, h => by rw [show xs = [] from h]; simp
  | d :: l, xs, h => by
    obtain ⟨cs, ys, rfl, hc, hr⟩ := h
    rw [List.length_append, L.len hc, hr.len, List.length_cons, Nat.add_mul]; omega
theorem Row.one {w : World} {d : D} {cs : List Value} (h : L.cells w d cs) : Row L w [d] cs := ⟨cs, [], by simp, h, rfl⟩
theorem Row.append {w : World} : ∀ {l m : List D} {xs ys : List Value}, Row L w l xs → Row L w m ys → Row L w (l ++ m) (xs ++ ys)
  | [], m, xs, ys, h, k => by rw [show xs = [] from h]; simpa using k
  | d :: l, m, xs, ys, h, k => by
    obtain ⟨cs, zs, rfl, hc, hr⟩ := h
    exact ⟨cs, zs ++ ys, by simp, hc, hr.append k⟩
theorem Row.below {w w' : World} (hb : Below w.heap.size w w') : ∀ {l : List D} {xs : List Value}, Row L w l xs → Row L w' l xs
  | [], _, h => h
  | _ :: _, _, h => by
    obtain ⟨cs, zs, rfl, hc, hr⟩ := h
    exact ⟨cs, zs, rfl, L.below hb hc, hr.below hb⟩
theorem Row.split {w : World} : ∀ {l : List D} {xs : List Value} (i : Nat), i ≤ l.length → Row L w l xs → Row L w (l.take i) (xs.take (i * L.sz)) ∧ Row L w (l.drop i) (xs.drop (i * L.sz))
  | l, xs, 0, _, h => by simpa using ⟨Row.nil w, h⟩
  | [], xs, i + 1, hi, h => by simp at hi
  | d :: l, xs, i + 1, hi, h => by
    obtain ⟨cs, ys, rfl, hc, hr⟩ := h
    have hl := L.len hc
    obtain ⟨h1, h2⟩ := hr.split i (by simpa using hi)
    have e : (i + 1) * L.sz = cs.length + i * L.sz := by rw [hl, Nat.add_mul]; omega
    rw [e, List.take_length_add_append, List.drop_length_add_append]
    exact ⟨⟨cs, _, rfl, hc, h1⟩, h2⟩
theorem Row.take {w : World} {l : List D} {xs : List Value} (h : Row L w l xs) (i : Nat) (hi : i ≤ l.length) : Row L w (l.take i) (xs.take (i * L.sz)) := (h.split i hi).1
theorem Row.drop {w : World} {l : List D} {xs : List Value} (h : Row L w l xs) (i : Nat) (hi : i ≤ l.length) : Row L w (l.drop i) (xs.drop (i * L.sz)) := (h.split i hi).2
theorem Row.get {w : World} : ∀ {l : List D} {xs : List Value} {i : Nat} {d : D}, Row L w l xs → l[i]? = some d → ∃ cs, L.cells w d cs ∧ ∀ j u, cs[j]? = some u → xs[i * L.sz + j]? = some u
  | [], _, i, d, _, h => by simp at h
  | e :: l, xs, 0, d, h, hd => by
    obtain ⟨cs, ys, rfl, hc, hr⟩ := h
    simp at hd; subst hd
    exact ⟨cs, hc, fun j u hj => by rw [Nat.zero_mul, Nat.zero_add, List.getElem?_append_left (List.getElem?_eq_some_iff.1 hj).1]; exact hj⟩
  | e :: l, xs, i + 1, d, h, hd => by
    obtain ⟨cs, ys, rfl, hc, hr⟩ := h
    obtain ⟨cs', hc', hx⟩ := hr.get (i := i) (by simpa using hd)
    refine ⟨cs', hc', fun j u hj => ?_⟩
    have hl := L.len hc
    rw [List.getElem?_append_right (by rw [hl, Nat.add_mul]; omega)]
    have : (i + 1) * L.sz + j - cs.length = i * L.sz + j := by rw [hl, Nat.add_mul]; omega
    rw [this]
    exact hx j u hj
theorem Row.snoc {w : World} {l : List D} {xs cs : List Value} {d : D} (h : Row L w l xs) (hc : L.cells w d cs) : Row L w (l ++ [d]) (xs ++ cs) := h.append (Row.one hc)
/-- What an element's cells may be. -/
def OneL (L : Lay D) : Prop := ∀ w d cs, L.cells w d cs → ∀ u ∈ cs, u.oneCell' = true
theorem Row.oneCell (h1 : OneL L) {w : World} : ∀ {l : List D} {xs : List Value}, Row L w l xs → ∀ u ∈ xs, u.oneCell' = true
  | [], xs, h, u, hu => by rw [show xs = [] from h] at hu; simp at hu
  | d :: l, xs, h, u, hu => by
    obtain ⟨cs, ys, rfl, hc, hr⟩ := h
    rcases List.mem_append.1 hu with hu | hu
    · exact h1 _ _ _ hc u hu
    · exact hr.oneCell h1 u hu
theorem row_of_all {w : World} {b : Nat} : ∀ {l : List D} {o : Nat}, (∀ k d, l[k]? = some d → ∃ cs, L.cells w d cs ∧ ∀ j u, cs[j]? = some u → w.cell? ⟨b, o + (k * L.sz + j), none⟩ = some u) →
    ∃ xs, Row L w l xs ∧ ∀ j u, xs[j]? = some u → w.cell? ⟨b, o + j, none⟩ = some u
  | [], o, _ => ⟨[], rfl, fun j u h => by simp at h⟩
  | d :: l, o, h => by
    obtain ⟨cs, hc, hx⟩ := h 0 d rfl
    obtain ⟨xs, hr, hy⟩ := row_of_all (b := b) (l := l) (o := o + L.sz) (fun k d hk => by
      obtain ⟨cs', hc', hx'⟩ := h (k + 1) d (by simpa using hk)
      refine ⟨cs', hc', fun j u hj => ?_⟩
      rw [← hx' j u hj]
      have : o + L.sz + (k * L.sz + j) = o + ((k + 1) * L.sz + j) := by rw [Nat.add_mul]; omega
      rw [this])
    refine ⟨cs ++ xs, ⟨cs, xs, rfl, hc, hr⟩, fun j u hj => ?_⟩
    have hl := L.len hc
    by_cases hjl : j < cs.length
    · rw [List.getElem?_append_left hjl] at hj
      have := hx j u hj
      rwa [Nat.zero_mul, Nat.zero_add] at this
    · rw [List.getElem?_append_right (by omega)] at hj
      rw [← hy _ u hj]
      have : o + L.sz + (j - cs.length) = o + j := by omega
      rw [this]
theorem Row.of_sl {w : World} {A : Option Addr} {n c : Nat} {l : List D} (h : Sl L w (.slice A n c) l) : ∃ xs, Row L w l xs ∧ (0 < l.length → ∃ b o, A = some ⟨b, o, none⟩ ∧ ∀ j u, xs[j]? = some u → w.cell? ⟨b, o + j, none⟩ = some u) := by
  by_cases hn : 0 < l.length
  · obtain ⟨b, o, hA, hall⟩ := h.all hn
    obtain ⟨xs, hr, hx⟩ := row_of_all hall
    exact ⟨xs, hr, fun _ => ⟨b, o, hA, hx⟩⟩
  · have : l = [] := List.eq_nil_of_length_eq_zero (by omega)
    subst this
    exact ⟨[], rfl, fun h => absurd h hn⟩
theorem Own.row {w : World} {B : Nat} {e : TypeId} {v : Value} {l : List D} {xs : List Value} (h : Own w B e L.sz v l.length xs) (hr : Row L w l xs) : Sl L w v l := by
  obtain ⟨A, c, rfl, h1, h2⟩ := h.form
  refine ⟨A, c, rfl, h1, h2, fun i d hi => ?_⟩
  obtain ⟨g, o, c', hv, _, _⟩ := h.addr (len_pos hi)
  injection hv with hA _ hc
  subst hA; subst hc
  obtain ⟨cs, hc, hx⟩ := hr.get hi
  exact ⟨g, o, cs, rfl, hc, fun j u hj => h.cell rfl (hx j u hj)⟩
end
theorem Row.flat {D : Type} {n : Nat} {ok : D → Prop} {enc : D → List Value} {hn : ∀ d, (enc d).length = n} {w : World} : ∀ {l : List D} {xs : List Value}, Row (flatL n ok enc hn) w l xs → xs = l.flatMap enc ∧ ∀ x ∈ l, ok x
  | [], xs, h => ⟨h, fun x hx => by simp at hx⟩
  | d :: l, xs, h => by
    obtain ⟨cs, ys, rfl, ⟨rfl, ho⟩, hr⟩ := h
    obtain ⟨rfl, hk⟩ := Row.flat hr
    refine ⟨by simp, fun x hx => ?_⟩
    rcases List.mem_cons.1 hx with rfl | hx
    · exact ho
    · exact hk x hx
theorem one_knd : OneL kndL := by
  rintro w d cs ⟨v, u, rfl, _, h2, h3⟩ x hx
  obtain ⟨_, _, rfl, _⟩ := h2
  obtain ⟨_, _, rfl, _⟩ := h3
  simp at hx
  rcases hx with rfl | rfl | rfl <;> rfl
/-- A copy of the call's own. -/
def CloneR {D : Type} (L : Lay D) (e : TypeId) (l : List D) (w : World) (ed : Ending) (w' : World) : Prop :=
  ∃ v xs, ed = .returned v ∧ Own w' w.heap.size e L.sz v l.length xs ∧ Row L w l xs ∧ Below w.heap.size w w'
theorem Own.made {w : World} {e : TypeId} {sz : Nat} : Own (w.alloc (.cells #[] e)) w.heap.size e sz (.slice (some ⟨w.heap.size, 0, none⟩) 0 0) 0 [] :=
  ⟨by simp, .inr ⟨_, 0, 0, #[], rfl, Nat.le_refl _, heap_alloc_new _ _, Nat.le_refl _, Nat.zero_le _, by simp, by simp⟩⟩

theorem clone_knds_info : (Tryz.prog.info? 59).map (fun i => (i.zero, i.size, i.bytes)) = some (some (.agg #[.string .empty, .slice none 0 0, .slice none 0 0]), 3, 64) := by kernel_rfl
set_option maxHeartbeats 2000000 in
theorem clone_knds {w : World} {v : Value} {l : List Knd} (hv : Sl kndL w v l) (hl : l.length ≤ 1048576) : Calls Tryz.prog 67 #[v] w (CloneR kndL 59 l w) := by
  obtain ⟨i0, ei, ez, ez1, ez2⟩ := info_parts clone_knds_info
  obtain ⟨A, c, rfl, _, _⟩ := hv.form
  obtain ⟨xs, hr, hx⟩ := Row.of_sl hv
  have hlen := hr.len
  have h1 := hr.oneCell one_knd
  have q22 : ∀ (w : World) (a : Option Addr) (n c n' c' : Nat), (binOp .eql 22 (.slice a n c) (.slice none n' c')).run Tryz.prog w = .ok (.bool a.isNone) w := fun w a n c n' c' => Lib.run_eql_slice_nil w _ _ a n c n' c' Tryz.underlying22
  cases A with
  | none =>
    have h0 : l = [] := by
      rcases Nat.eq_zero_or_pos l.length with h | h
      · exact List.eq_nil_of_length_eq_zero h
      · obtain ⟨_, _, hA, _⟩ := hx h; cases hA
    subst h0
    clear hv hr hx hlen h1
    go_enter Tryz.func67, Tryz.ntmps67
    go_wp2_with fail
    go_ret
    exact ⟨_, [], rfl, Own.nil _ _ _ _, rfl, Below.refl _ _⟩
  | some a =>
    have hX : Hid (0 < l.length → ∃ b o, (some a : Option Addr) = some ⟨b, o, none⟩ ∧ ∀ j u, xs[j]? = some u → w.cell? ⟨b, o + j, none⟩ = some u) := hx
    have hR := Lib.hid hr
    have hL := Lib.hid hlen
    have h1H := Lib.hid h1
    clear hv hr hx hlen h1
    go_enter Tryz.func67, Tryz.ntmps67
    go_wp2_with (at_builtin; refine wpList_append_q _ rfl (.tmp 5) (.tmp 6) 22 rfl w.heap.size 59 i0 (.agg #[.string .empty, .slice none 0 0, .slice none 0 0]) 3 64 Tryz.underlying22 ei ez ez1 ez2 rfl (by decide) (.slice (some ⟨w.heap.size, 0, none⟩) 0 0) 0 [] rfl Own.made (some a) l.length c xs rfl hL.out (fun hp => by
        obtain ⟨b, o, hA, hy⟩ := hX.out hp
        exact ⟨_, hA, fun j u hj => by rw [addr_add]; exact cell_below ((Below.refl _ _).alloc (Nat.le_refl _) _) (hy j u hj)⟩) h1H.out (by unfold maxLen; omega) (by omega) (by simp) ?_; intro v7 w7 hown7 hg7 hat7)
    have hb7 : Below w.heap.size w w7 := ((Below.refl _ _).alloc (Nat.le_refl _) _).grown hg7 (by simp) (fun k hk => Nat.le_of_eq (by simpa [Value.ownBlock] using hk))
    simp only [Nat.zero_add, List.nil_append] at hown7
    clear hg7 hat7
    go_ret
    exact ⟨_, xs, rfl, hown7, hR.out, hb7⟩

/-- All blocks of cells of type T are as they were. -/
def Same (T : TypeId) (w w' : World) : Prop := ∀ (k : Nat) c fr, w.heap[k]? = some (.cells c T fr) → w'.heap[k]? = some (.cells c T fr)
theorem Same.refl (T : TypeId) (w : World) : Same T w w := fun _ _ _ h => h
theorem Same.trans {T : TypeId} {a b c : World} (h : Same T a b) (k : Same T b c) : Same T a c := fun i x fr hx => k i x fr (h i x fr hx)
theorem Same.below {T : TypeId} {w w' : World} (hb : Below w.heap.size w w') : Same T w w' := fun k _ _ h => (hb.block k (Array.getElem?_eq_some_iff.1 h).1).trans h
theorem Same.alloc {T : TypeId} (w : World) (o : Obj) : Same T w (w.alloc o) := .below ((Below.refl _ _).alloc (Nat.le_refl _) _)
theorem Same.drewN {T : TypeId} (w : World) (n : Nat) : Same T w (w.drewN n) := fun _ _ _ h => h
theorem Same.drew {T : TypeId} (w : World) : Same T w w.drew := fun _ _ _ h => h
theorem Same.grown {T e : TypeId} {w w' : World} {B sz n : Nat} {v : Value} {xs : List Value} (ho : Own w B e sz v n xs) (hne : e ≠ T) (hg : w.grownBy w' v.ownBlock) : Same T w w' := fun k c fr h => by
  have hlt := (Array.getElem?_eq_some_iff.1 h).1
  refine (hg.block k hlt fun e' => ?_).trans h
  rcases ho.2 with ⟨rfl, _⟩ | ⟨g, o, cap, cur, rfl, _, hg2, _⟩
  · simp [Value.ownBlock] at e'
  · simp [Value.ownBlock] at e'
    subst e'
    rw [h] at hg2
    injection hg2 with hg2
    injection hg2 with _ h2 _
    exact hne h2.symm
theorem Same.setCell {T e : TypeId} {w : World} {p : Addr} {c : Array Value} {fr : Nat × Nat} (hp : w.heap[p.block]? = some (.cells c e fr)) (hne : e ≠ T) (u : Value) : Same T w (w.setCell p u) := fun k c' fr' h => by
  refine (Below.heap_setCell w p u k (fun e' => ?_)).trans h
  subst e'
  rw [h] at hp
  injection hp with hp
  injection hp with _ h2 _
  exact hne h2.symm
theorem Own.same {w w' : World} {B : Nat} {e : TypeId} {sz : Nat} {v : Value} {n : Nat} {xs : List Value} (h : Own w B e sz v n xs) (hs : Same e w w') : Own w' B e sz v n xs := by
  refine ⟨h.1, ?_⟩
  rcases h.2 with hn | ⟨g, o, cap, cur, rfl, hb, hg, rest⟩
  · exact .inl hn
  · exact .inr ⟨g, o, cap, cur, rfl, hb, hs g cur _ hg, rest⟩

theorem own_of_block {w : World} {b B : Nat} {e : TypeId} {sz n : Nat} {cs : List Value} (h : w.heap[b]? = some (.cells cs.toArray e (0, 0))) (hB : B ≤ b) (hl : cs.length = n * sz) (hm : n ≤ maxLen) : Own w B e sz (.slice (some ⟨b, 0, none⟩) n n) n cs :=
  ⟨hl, .inr ⟨b, 0, n, cs.toArray, rfl, hB, h, Nat.le_refl _, hm, by simp [hl], by rw [List.drop_zero, ← hl]; exact List.take_length⟩⟩
theorem Own.ne_block {w : World} {B : Nat} {e e' : TypeId} {sz n k : Nat} {v : Value} {xs : List Value} {c : Array Value} {fr : Nat × Nat} (ho : Own w B e sz v n xs) (h : w.heap[k]? = some (.cells c e' fr)) (hne : e' ≠ e) : some k ≠ v.ownBlock := by
  intro e1
  rcases ho.2 with ⟨rfl, _⟩ | ⟨g, o, cap, cur, rfl, _, hg2, _⟩
  · simp [Value.ownBlock] at e1
  · simp [Value.ownBlock] at e1
    subst e1
    rw [h] at hg2
    injection hg2 with hg2
    injection hg2 with _ h2 _
    exact hne h2
theorem grown_block {w w' : World} {k : Nat} {row : Option Nat} {o : Obj} (hg : w.grownBy w' row) (h : w.heap[k]? = some o) (hne : some k ≠ row) : w'.heap[k]? = some o :=
  (hg.block k (Array.getElem?_eq_some_iff.1 h).1 hne).trans h
theorem block_cell {w : World} {k : Nat} {c : Array Value} {T : TypeId} {fr : Nat × Nat} (h : w.heap[k]? = some (.cells c T fr)) (i : Nat) : w.cell? ⟨k, i, none⟩ = c[i]? := by
  simp [World.cell?, h]
theorem block_free {w : World} {k : Nat} {c : Array Value} {T : TypeId} (h : w.heap[k]? = some (.cells c T (0, 0))) (i : Nat) : w.frozen? ⟨k, i, none⟩ = false := by
  simp [World.frozen?, h]
theorem setCell_block {w : World} {k : Nat} {c : Array Value} {T : TypeId} {fr : Nat × Nat} (h : w.heap[k]? = some (.cells c T fr)) (i : Nat) (u : Value) : (w.setCell ⟨k, i, none⟩ u).heap[k]? = some (.cells (c.setIfInBounds i u) T fr) := by
  simp [World.setCell, Array.getElem?_modify, h]

theorem cb_zero : ∀ {a b : List UInt8}, Lib.compareBytes a b = 0 ↔ a = b
  | [], [] => by simp [Lib.compareBytes]
  | [], _ :: _ => by simp [Lib.compareBytes]
  | _ :: _, [] => by simp [Lib.compareBytes]
  | x :: a, y :: b => by
    have ih := @cb_zero a b
    rw [Lib.compareBytes]
    by_cases h1 : x < y
    · simp [h1]; intro e; subst e; exact absurd h1 (by simp)
    · by_cases h2 : y < x
      · simp [h1, h2]; intro e; subst e; exact absurd h2 (by simp)
      · have e : x = y := by
          apply UInt8.toNat_inj.1
          simp [UInt8.lt_iff_toNat_lt] at h1 h2
          omega
        subst e
        simp [h1, ih]
theorem cb_anti : ∀ (a b : List UInt8), Lib.compareBytes b a = - Lib.compareBytes a b
  | [], [] => by simp [Lib.compareBytes]
  | [], _ :: _ => by simp [Lib.compareBytes]
  | _ :: _, [] => by simp [Lib.compareBytes]
  | x :: a, y :: b => by
    have ih := cb_anti a b
    rw [Lib.compareBytes, Lib.compareBytes]
    by_cases h1 : x < y
    · have h2 : ¬ y < x := by simp [UInt8.lt_iff_toNat_lt] at h1 ⊢; omega
      simp [h1, h2]
    · by_cases h2 : y < x
      · simp [h1, h2]
      · simp [h1, h2, ih]
theorem cb_trans : ∀ {a b c : List UInt8}, Lib.compareBytes a b < 0 → Lib.compareBytes b c < 0 → Lib.compareBytes a c < 0
  | [], [], _, h, _ => by simp [Lib.compareBytes] at h
  | [], _ :: _, [], _, h => by simp [Lib.compareBytes] at h
  | [], _ :: _, _ :: _, _, _ => by simp [Lib.compareBytes]
  | _ :: _, [], _, h, _ => by simp [Lib.compareBytes] at h
  | _ :: _, _ :: _, [], _, h => by simp [Lib.compareBytes] at h
  | x :: a, y :: b, z :: c, h, k => by
    have ih := @cb_trans a b c
    rw [Lib.compareBytes] at h k ⊢
    simp only [UInt8.lt_iff_toNat_lt] at h k ⊢
    by_cases h1 : x.toNat < y.toNat
    · by_cases k1 : y.toNat < z.toNat
      · have : x.toNat < z.toNat := by omega
        simp [this]
      · by_cases k2 : z.toNat < y.toNat
        · simp [k1, k2] at k
        · have : x.toNat < z.toNat := by omega
          simp [this]
    · by_cases h2 : y.toNat < x.toNat
      · simp [h1, h2] at h
      · simp only [h1, h2, if_false] at h
        by_cases k1 : y.toNat < z.toNat
        · have : x.toNat < z.toNat := by omega
          simp [this]
        · by_cases k2 : z.toNat < y.toNat
          · simp [k1, k2] at k
          · simp only [k1, k2, if_false] at k
            have e1 : ¬ x.toNat < z.toNat := by omega
            have e2 : ¬ z.toNat < x.toNat := by omega
            simp only [e1, e2, if_false]
            exact ih h k
theorem cmpS_zero {a b : ByteArray} : cmpS a b = 0 ↔ a = b := by
  unfold cmpS
  rw [cb_zero]
  constructor
  · intro h
    have := Array.toList_inj.1 h
    cases a; cases b; simp at this; rw [this]
  · intro h; rw [h]
theorem cmpS_anti (a b : ByteArray) : cmpS b a = - cmpS a b := cb_anti _ _
theorem cmpS_trans {a b c : ByteArray} (h : cmpS a b < 0) (k : cmpS b c < 0) : cmpS a c < 0 := cb_trans h k


/-! ### The order of names -/
theorem less_cmp : ∀ (a b : List UInt8), Op.bytesLess a b = decide (Lib.compareBytes a b < 0)
  | [], [] => by simp [Op.bytesLess, Lib.compareBytes]
  | [], _ :: _ => by simp [Op.bytesLess, Lib.compareBytes]
  | _ :: _, [] => by simp [Op.bytesLess, Lib.compareBytes]
  | x :: a, y :: b => by
    rw [Op.bytesLess, Lib.compareBytes, less_cmp a b]
    by_cases h1 : x < y
    · simp [h1]
    · by_cases h2 : y < x
      · have : x ≠ y := fun e => by subst e; exact absurd h2 h1
        simp [h1, h2, this]
      · have e : x = y := by
          apply UInt8.toNat_inj.1
          simp [UInt8.lt_iff_toNat_lt] at h1 h2
          omega
        subst e
        simp [h1]
theorem ltS_cmp (a b : ByteArray) : ltS a b = decide (cmpS a b < 0) := by
  unfold ltS cmpS
  rw [less_cmp, ByteArray.toList_eq, ByteArray.toList_eq]
/-! ### record.Get -/
theorem res3 {w w1 : World} {T : TypeId} {c0 c1 c2 : Value} (a b c : Value) (hB : Below w.heap.size w w1) (h : w1.heap[w.heap.size]? = some (.cells #[c0, c1, c2] T (0, 0))) :
    Below w.heap.size w (((w1.setCell ⟨w.heap.size, 0, none⟩ a).setCell ⟨w.heap.size, 1, none⟩ b).setCell ⟨w.heap.size, 2, none⟩ c) ∧
    (((w1.setCell ⟨w.heap.size, 0, none⟩ a).setCell ⟨w.heap.size, 1, none⟩ b).setCell ⟨w.heap.size, 2, none⟩ c).cell? ⟨w.heap.size, 0, none⟩ = some a ∧
    (((w1.setCell ⟨w.heap.size, 0, none⟩ a).setCell ⟨w.heap.size, 1, none⟩ b).setCell ⟨w.heap.size, 2, none⟩ c).cell? ⟨w.heap.size, 1, none⟩ = some b ∧
    (((w1.setCell ⟨w.heap.size, 0, none⟩ a).setCell ⟨w.heap.size, 1, none⟩ b).setCell ⟨w.heap.size, 2, none⟩ c).cell? ⟨w.heap.size, 2, none⟩ = some c := by
  have h3 := setCell_block (setCell_block (setCell_block h 0 a) 1 b) 2 c
  exact ⟨((hB.setCell (p := ⟨_, 0, none⟩) (Nat.le_refl _) _).setCell (p := ⟨_, 1, none⟩) (Nat.le_refl _) _).setCell (p := ⟨_, 2, none⟩) (Nat.le_refl _) _, block_cell h3 0, block_cell h3 1, block_cell h3 2⟩

/-! ### What a right graph gives -/

open Go

/-- No end of a line. -/
def flatB (l : List UInt8) : Prop := ∀ c ∈ l, c ≠ 10
theorem flatB.append {a b : List UInt8} (h : flatB a) (k : flatB b) : flatB (a ++ b) := fun c hc => by
  rcases List.mem_append.1 hc with h1 | h1
  · exact h c h1
  · exact k c h1
theorem flatB.cons {c : UInt8} {l : List UInt8} (hc : c ≠ 10) (h : flatB l) : flatB (c :: l) := fun x hx => by
  rcases List.mem_cons.1 hx with rfl | hx
  · exact hc
  · exact h x hx
theorem flatB.nil : flatB [] := fun _ h => by cases h
theorem flatB.count {l : List UInt8} (h : flatB l) : l.count 10 = 0 := List.count_eq_zero.2 fun hm => h 10 hm rfl
theorem flat_digits (u : Nat) : flatB (Lib.decDigits u) := by
  induction u using Nat.strongRecOn with
  | ind u ih =>
    rw [Lib.decDigits]
    by_cases h : u < 10
    · rw [dif_pos h]; exact .cons (ofNat_ne h (.inl (by decide))) .nil
    · rw [dif_neg h]; exact (ih (u / 10) (by omega)).append (.cons (ofNat_ne (by omega) (.inl (by decide))) .nil)
theorem flat_itoa (n : Int) : flatB (Lib.itoa n) := by
  rcases itoa_cases n with ⟨u, _, e⟩ | ⟨u, _, _, e⟩
  · rw [e]; exact flat_digits u
  · rw [e]; exact .cons (by decide) (flat_digits u)
theorem flat_name {s : ByteArray} (h : nameE s = 0) : flatB s.data.toList := fun c hc e => by
  unfold nameE at h
  split at h
  · cases h
  · split at h
    · cases h
    · split at h
      · cases h
      · rename_i hn
        exact hn (List.any_eq_true.2 ⟨c, hc, by subst e; decide⟩)
theorem flat_join : ∀ (xs : List (List UInt8)) (sep : List UInt8), (∀ x ∈ xs, flatB x) → flatB sep → flatB (Lib.join xs sep)
  | [], sep, _, _ => by rw [Lib.join_nil]; exact .nil
  | x :: r, sep, h, hs => by
    rw [Lib.join_cons]
    refine (h x (by simp)).append fun c hc => ?_
    unfold Lib.joinTail at hc
    obtain ⟨l, hl, hcl⟩ := List.mem_flatten.1 hc
    obtain ⟨y, hy, rfl⟩ := List.mem_map.1 hl
    exact (hs.append (h y (by simp [hy]))) c hcl
theorem name_len {s : ByteArray} (h : nameE s = 0) : s.data.toList.length ≤ 8 := by
  have h5 : s.data.toList.length = s.size := by rw [Array.length_toList]; rfl
  unfold nameE at h
  split at h
  · cases h
  · split at h
    · cases h
    · omega
theorem tail_len : ∀ (r : List (List UInt8)) (sep : List UInt8) (m : Nat), (∀ x ∈ r, x.length ≤ m) → (Lib.joinTail sep r).length ≤ r.length * (m + sep.length)
  | [], _, _, _ => by simp [Lib.joinTail]
  | y :: r, sep, m, h => by
    have hy := h y (by simp)
    have ih := tail_len r sep m fun z hz => h z (List.mem_cons_of_mem _ hz)
    unfold Lib.joinTail at *
    rw [List.map_cons, List.flatten_cons, List.length_append, List.length_append, List.length_cons, Nat.succ_mul]
    omega
theorem join_len : ∀ (xs : List (List UInt8)) (sep : List UInt8) (m : Nat), (∀ x ∈ xs, x.length ≤ m) → (Lib.join xs sep).length ≤ xs.length * (m + sep.length)
  | [], sep, m, _ => by rw [Lib.join_nil]; simp
  | x :: r, sep, m, h => by
    rw [Lib.join_cons, List.length_append]
    have h1 := h x (by simp)
    have h2 := tail_len r sep m fun y hy => h y (List.mem_cons_of_mem _ hy)
    rw [List.length_cons, Nat.succ_mul]
    omega
theorem flatMap_len {D : Type} {f : D → List UInt8} {m : Nat} : ∀ {l : List D}, (∀ x ∈ l, (f x).length ≤ m) → (l.flatMap f).length ≤ l.length * m
  | [], _ => by simp
  | x :: l, h => by
    have h1 := h x (by simp)
    have h2 := flatMap_len (l := l) fun y hy => h y (List.mem_cons_of_mem _ hy)
    rw [List.flatMap_cons, List.length_append, List.length_cons, Nat.succ_mul]
    omega

/-- A sign is not in a text. -/
def noB (c : UInt8) (l : List UInt8) : Prop := ∀ x ∈ l, x ≠ c
theorem noB.nil {c : UInt8} : noB c [] := fun _ h => by cases h
theorem noB.cons {c x : UInt8} {l : List UInt8} (h : x ≠ c) (k : noB c l) : noB c (x :: l) := fun y hy => by
  rcases List.mem_cons.1 hy with rfl | hy
  · exact h
  · exact k y hy
theorem noB.append {c : UInt8} {a b : List UInt8} (h : noB c a) (k : noB c b) : noB c (a ++ b) := fun y hy => by
  rcases List.mem_append.1 hy with hy | hy
  · exact h y hy
  · exact k y hy
/-- A text has a first such sign, or none. -/
theorem first_sign (c : UInt8) : ∀ l : List UInt8, noB c l ∨ ∃ a r, l = a ++ c :: r ∧ noB c a
  | [] => .inl .nil
  | x :: l => by
    by_cases hx : x = c
    · exact .inr ⟨[], l, by rw [hx]; rfl, .nil⟩
    · rcases first_sign c l with h | ⟨a, r, rfl, h⟩
      · exact .inl (.cons hx h)
      · exact .inr ⟨x :: a, r, rfl, .cons hx h⟩
theorem occ_ne {s : List UInt8} {c : UInt8} {i : Nat} (h : s[i]? ≠ some c) : Lib.occAt s [c] i = false := by
  cases hq : Lib.occAt s [c] i with
  | false => rfl
  | true => exact absurd (Lib.occAt_head rfl hq) h
theorem index_sign {c : UInt8} {a r : List UInt8} (h : noB c a) : Lib.index (a ++ c :: r) [c] = a.length :=
  Lib.index_hit (fun j hj => occ_ne (by
    rw [List.getElem?_append_left hj]
    intro e
    exact h _ (List.mem_of_getElem? e) rfl)) (by simp) (by simp [Lib.occAt])
theorem index_no {c : UInt8} {a : List UInt8} (h : noB c a) : Lib.index a [c] = -1 :=
  Lib.index_none fun _ _ => occ_ne fun e => h _ (List.mem_of_getElem? e) rfl
/-- Cut at the first. -/
theorem cut_sign {c : UInt8} {a r : List UInt8} (h : noB c a) : Lib.cut (a ++ c :: r) [c] = (a, r, true) := by
  unfold Lib.cut
  rw [index_sign h, if_pos (by omega)]
  simp
theorem cut_no {c : UInt8} {a : List UInt8} (h : noB c a) : Lib.cut a [c] = (a, [], false) := by
  unfold Lib.cut
  rw [index_no h, if_neg (by omega)]
theorem cut_cases (c : UInt8) (l : List UInt8) : (Lib.cut l [c] = (l, [], false) ∧ noB c l) ∨ ∃ a r, l = a ++ c :: r ∧ noB c a ∧ Lib.cut l [c] = (a, r, true) := by
  rcases first_sign c l with h | ⟨a, r, rfl, h⟩
  · exact .inl ⟨cut_no h, h⟩
  · exact .inr ⟨a, r, rfl, h, cut_sign h⟩
/-- Cut at each. -/
theorem split_no {c : UInt8} {a : List UInt8} (h : noB c a) : Lib.split a [c] = [a] := by
  unfold Lib.split
  rw [Lib.count_miss (index_no h)]; rfl
theorem split_sign {c : UInt8} {a r : List UInt8} (h : noB c a) : Lib.split (a ++ c :: r) [c] = a :: Lib.split r [c] := by
  have hi := index_sign (r := r) h
  unfold Lib.split
  rw [Lib.count_hit (by simp) hi, Nat.add_comm]
  show (if Lib.index (a ++ c :: r) [c] == -1 then [a ++ c :: r] else (a ++ c :: r).take ((Lib.index (a ++ c :: r) [c]).toNat + 0) :: Lib.splitK [c] 0 (Lib.count ((a ++ c :: r).drop (a.length + 1)) [c]) ((a ++ c :: r).drop ((Lib.index (a ++ c :: r) [c]).toNat + 1))) = _
  rw [hi, if_neg (by simp), drop_behind]
  simp
theorem join_one (c : UInt8) (a : List UInt8) : Lib.join [a] [c] = a := by simp [Lib.join]
theorem split_ne (c : UInt8) (l : List UInt8) : Lib.split l [c] ≠ [] := by
  rcases first_sign c l with h | ⟨a, r, rfl, h⟩
  · rw [split_no h]; simp
  · rw [split_sign h]; simp
/-- Cut at each that is in no quotes. -/
def cutF (c : UInt8) : Bool → List UInt8 → List UInt8 → List (List UInt8)
  | _, cur, [] => [cur]
  | q, cur, x :: l => if x = 39 then cutF c (!q) (cur ++ [x]) l else if x = c ∧ q = false then cur :: cutF c false [] l else cutF c q (cur ++ [x]) l
def cutL (c : UInt8) (l : List UInt8) : List (List UInt8) := cutF c false [] l
end Go.Proofs.YtfeccicogcnhcaaGreatDoor
