/- Parts: TrB, TxI, TxJ, TxK, TxN. -/
import Derived.Test.YtflidfmpmakggaaGreatDoorMg15
import Derived.Test.YtflidfmpmakggaaGreatDoorMg13
import Derived.Test.YtflidfmpmakggaaGreatDoorMg05
/- Contract: text.readTie: a tie of a line. Conditions: what the library's texts lean on (TxOk); the text is not too long. -/
namespace Go.Proofs.YtflidfmpmakggaaGreatDoor
open Go Go.RowKit

/-- What readTie answers. -/
def TieR (l : List UInt8) (w : World) (e : Ending) (w' : World) : Prop := ∃ (bd : ByteArray) (x y : Int),
  e = .returned (.tuple #[.agg #[.string bd, .int .i64 x, .int .i64 y], .bool (readTieL l).isSome]) ∧ (∀ t, readTieL l = some t → bd = t.bond ∧ x = t.src ∧ y = t.dst ∧ t.ok) ∧ Below w.heap.size w w'
theorem TieR.bad {l : List UInt8} {w w' : World} {e : Ending} {bd : ByteArray} {x y : Int} (h : readTieL l = none) (he : e = .returned (.tuple #[.agg #[.string bd, .int .i64 x, .int .i64 y], .bool false])) (hb : Below w.heap.size w w') : TieR l w e w' :=
  ⟨bd, x, y, by rw [h]; exact he, (fun t hn => by rw [h] at hn; cases hn), hb⟩
theorem num_i64 {l : List UInt8} {m u : Nat} (hm : m ≤ 9) (h : numL l m = some u) : I64 (u : Int) := by
  have h1 := (numL_iff.1 h).1
  exact atoi_range (atoi_back (u : Int) (by rw [itoa_nat, digits_trim, ← h1]; have := (numL_iff.1 h).2; omega))
set_option maxHeartbeats 4000000 in
theorem rtieT_any (s : ByteArray) (hs : Sm s) (w : World) (hT : TxOk w) : Calls Tryz.prog 60 #[.string s] w (TieR s.data.toList w) := by
  have hb0 : Below w.heap.size w (w.alloc (.cells #[.string ⟨#[]⟩, .int .i64 0, .int .i64 0] 102)) := (Below.refl _ _).alloc (Nat.le_refl _) _
  have hbk := heap_alloc_new w (.cells #[.string ⟨#[]⟩, .int .i64 0, .int .i64 0] 102)
  have HT := Lib.hid (hT.below hb0)
  have hle := len_size s
  have hx := tx_split s 32 _ HT.out.toTxP hs
  have hpl := split_len 32 _ s.data.toList (Nat.le_refl _)
  have HD : Hid (readTieL s.data.toList = match Lib.split s.data.toList [32] with
    | [a, b, c] => if a = [] then none else match numL b 4, numL c 4 with
      | some x, some y => some ⟨bs a, x, y⟩
      | _, _ => none
    | _ => none) := rfl
  unfold Sm at hs
  generalize Lib.split s.data.toList [32] = P at *
  have HPL : Hid (∀ x ∈ P, x.length ≤ 1048576) := fun x hx => by have := hpl.1 x hx; omega
  have hPl : P.length ≤ 1048577 := by have := hpl.2; omega
  clear hT hpl hle
  go_enter Tryz.func60, Tryz.ntmps60
  go_upto_region 1 with fail
  generalize w.alloc (.cells #[.string ⟨#[]⟩, .int .i64 0, .int .i64 0] 102) = W0 at *
  go_wp2_with fail
  refine hx.mono ?_
  clear hx
  rintro e w1 ⟨rfl, hsl, hb1⟩
  have hB1 := hb0.trans (hb1.mono hb0.size)
  have hbk1 := (hb1.block _ (Array.getElem?_eq_some_iff.1 hbk).1).trans hbk
  have HT1 := Lib.hid (HT.out.below hb1)
  have hne0 : w.heap.size ≠ W0.heap.size := by have := (Array.getElem?_eq_some_iff.1 hbk).1; omega
  clear hb0 hb1 hbk HT
  have y0 := block_cell hbk1 0
  have y1 := block_cell hbk1 1
  have y2 := block_cell hbk1 2
  have g0 := block_free hbk1 0
  have g1 := block_free hbk1 1
  have g2 := block_free hbk1 2
  obtain ⟨k1, k2, k3, k4⟩ := res3 (.string ⟨#[]⟩) (.int .i64 0) (.int .i64 0) hB1 hbk1
  by_cases h3 : P.length = 3
  case neg =>
    have HN : Hid (readTieL s.data.toList = none) := by
      unfold Hid; rw [HD.out]
      split
      · rename_i a b c
        simp at h3
      · rfl
    have h3' : ((P.length : Int) != 3) = true := by rw [bne_iff_ne]; omega
    clear hsl HD h3
    go_wp2_with fail
    exact bodyPost_ret (v := .tuple #[.agg #[.string ⟨#[]⟩, .int .i64 0, .int .i64 0], .bool false]) (by simp [results, Tryz.results60, go_sem, k2, k3, k4]) rfl (TieR.bad HN.out rfl k1)
  obtain ⟨a, b, c, rfl⟩ := three_parts (P := P) (by omega) (by omega)
  clear h3 hPl
  have ha := HPL.out a (by simp)
  have hb := HPL.out b (by simp)
  have hc := HPL.out c (by simp)
  obtain ⟨gb, o, hA, _, q0⟩ := str_at (k := 0) hsl (d := bs a) rfl
  injection hA with hA
  injection hA with e1 e2
  subst e1
  subst e2
  obtain ⟨gb2, o2, hA, _, q1⟩ := str_at (k := 1) hsl (d := bs b) rfl
  injection hA with hA
  injection hA with e1 e2
  subst e1
  subst e2
  obtain ⟨gb3, o3, hA, _, q2⟩ := str_at (k := 2) hsl (d := bs c) rfl
  injection hA with hA
  injection hA with e1 e2
  subst e1
  subst e2
  rw [Nat.add_zero] at q0
  rw [Nat.zero_add] at q1 q2
  have HD2 : Hid (readTieL s.data.toList = if a = [] then none else match numL b 4, numL c 4 with
      | some x, some y => some ⟨bs a, x, y⟩
      | _, _ => none) := HD.out
  have hbt : ((bs a).toList = []) = (a = []) := by
    refine propext ⟨fun h => ?_, fun h => ?_⟩
    · have h2 : bs a = .empty := by rw [← bytes_eq, h, empty_list]
      have := congrArg (·.data.toList) h2
      simpa [bs] using this
    · subst h; exact empty_list
  rw [show ([a, b, c] : List (List UInt8)).length = 3 from rfl]
  by_cases hb0 : a = []
  · have HN : Hid (readTieL s.data.toList = none) := by unfold Hid; rw [HD2.out, if_pos hb0]
    have hbe : (bs a).toList = [] := by rw [hbt]; exact hb0
    clear hsl HD HD2 HPL hbt hb0
    go_wp2_with fail
    exact bodyPost_ret (v := .tuple #[.agg #[.string ⟨#[]⟩, .int .i64 0, .int .i64 0], .bool false]) (by simp [results, Tryz.results60, go_sem, k2, k3, k4]) rfl (TieR.bad HN.out rfl k1)
  have hbn : ¬ (bs a).toList = [] := by rw [hbt]; exact hb0
  have hbe : (bs a).toList.isEmpty = false := List.isEmpty_eq_false_iff.2 hbn
  have HD3 : Hid (readTieL s.data.toList = match numL b 4, numL c 4 with
      | some x, some y => some ⟨bs a, x, y⟩
      | _, _ => none) := by unfold Hid; rw [HD2.out, if_neg hb0]
  have hx := num_any (bs b) (by unfold Sm; rw [bs_size]; exact hb) 4 (by omega) w1 HT1.out
  rw [bs_list] at hx
  have has : (bs a).size ≤ 1048576 := by rw [bs_size]; exact ha
  have hX2 : Hid (∀ wx, TxOk wx → Calls Tryz.prog 109 #[.string (bs c), .int .i64 (4 : Nat)] wx fun e w' => ∃ n : Int, e = .returned (.tuple #[.int .i64 n, .bool (numL c 4).isSome]) ∧ (∀ u, numL c 4 = some u → n = (u : Int)) ∧ Below wx.heap.size wx w') := by
    intro wx hw
    have h := num_any (bs c) (by unfold Sm; rw [bs_size]; exact hc) 4 (by omega) wx hw
    rw [bs_list] at h
    exact h
  have HI1 : Hid (∀ u, numL b 4 = some u → I64 (u : Int)) := fun u hu => num_i64 (by omega) hu
  have HI2 : Hid (∀ u, numL c 4 = some u → I64 (u : Int)) := fun u hu => num_i64 (by omega) hu
  generalize numL b 4 = nb at *
  generalize numL c 4 = nc at *
  clear hsl HD HD2 HPL hbt hb0 k1 k2 k3 k4 y0 y1 y2 g0 g1 g2
  go_wp2_with fail
  refine hx.mono ?_
  clear hx
  rintro e w2 ⟨n1, rfl, hn1, hb2⟩
  have hB2 := hB1.trans (hb2.mono hB1.size)
  have hbk2 := (hb2.block _ (Array.getElem?_eq_some_iff.1 hbk1).1).trans hbk1
  have q0 := cell_below hb2 q0
  have q2 := cell_below hb2 q2
  have hx := hX2.out w2 (HT1.out.below hb2)
  have HN1 : Hid (∀ u, nb = some u → n1 = (u : Int)) := hn1
  clear hbk1 hB1 hb2 HT1 hX2 hn1 q1
  go_wp2_with fail
  refine hx.mono ?_
  clear hx
  rintro e w3 ⟨n2, rfl, hn2, hb3⟩
  have hB3 := hB2.trans (hb3.mono hB2.size)
  have hbk3 := (hb3.block _ (Array.getElem?_eq_some_iff.1 hbk2).1).trans hbk2
  have q0 := cell_below hb3 q0
  have HN2 : Hid (∀ u, nc = some u → n2 = (u : Int)) := hn2
  have y0 := block_cell hbk3 0
  have y1 := block_cell hbk3 1
  have y2 := block_cell hbk3 2
  have g0 := block_free hbk3 0
  have g1 := block_free hbk3 1
  have g2 := block_free hbk3 2
  obtain ⟨k1, k2, k3, k4⟩ := res3 (.string (bs a)) (.int .i64 n1) (.int .i64 n2) hB3 hbk3
  clear hB2 hb3 hn2 hbk2 q2
  cases nb with
  | none =>
    have HN : Hid (readTieL s.data.toList = none) := by unfold Hid; rw [HD3.out]
    rw [show (none : Option Nat).isSome = false from rfl]
    clear HD3 HI1 HI2 HN1 HN2 hbk3
    go_wp2_with fail
    exact bodyPost_ret (v := .tuple #[.agg #[.string (bs a), .int .i64 n1, .int .i64 n2], .bool false]) (by simp [results, Tryz.results60, go_sem, k2, k3, k4]) rfl (TieR.bad HN.out rfl k1)
  | some u =>
    rw [show (some u : Option Nat).isSome = true from rfl]
    cases nc with
    | none =>
      have HN : Hid (readTieL s.data.toList = none) := by unfold Hid; rw [HD3.out]
      rw [show (none : Option Nat).isSome = false from rfl]
      clear HD3 HI1 HI2 HN1 HN2 hbk3
      go_wp2_with fail
      exact bodyPost_ret (v := .tuple #[.agg #[.string (bs a), .int .i64 n1, .int .i64 n2], .bool false]) (by simp [results, Tryz.results60, go_sem, k2, k3, k4]) rfl (TieR.bad HN.out rfl k1)
    | some v =>
      have HN : Hid (readTieL s.data.toList = some ⟨bs a, u, v⟩) := by unfold Hid; rw [HD3.out]
      have HF : Hid (n1 = (u : Int) ∧ n2 = (v : Int) ∧ I64 (u : Int) ∧ I64 (v : Int)) := ⟨HN1.out u rfl, HN2.out v rfl, HI1.out u rfl, HI2.out v rfl⟩
      rw [show (some v : Option Nat).isSome = true from rfl]
      clear HD3 HI1 HI2 HN1 HN2 hbk3
      go_wp2_with fail
      exact bodyPost_ret (v := .tuple #[.agg #[.string (bs a), .int .i64 n1, .int .i64 n2], .bool true]) (by simp [results, Tryz.results60, go_sem, k2, k3, k4]) rfl ⟨bs a, n1, n2, by rw [HN.out]; rfl, (fun t hn => by
        rw [HN.out] at hn
        injection hn with hn
        subst hn
        exact ⟨rfl, HF.out.1, HF.out.2.1, has, HF.out.2.2.1, HF.out.2.2.2⟩), k1⟩

/-- All blocks of cells are as they were. -/
def AllSame (W W' : World) : Prop := ∀ (k : Nat) c T fr, W.heap[k]? = some (.cells c T fr) → W'.heap[k]? = some (.cells c T fr)
theorem AllSame.same {W W' : World} (h : AllSame W W') (T : TypeId) : Same T W W' := fun k c fr hk => h k c T fr hk
theorem AllSame.refl (W : World) : AllSame W W := fun _ _ _ _ h => h
theorem AllSame.trans {A B C : World} (h : AllSame A B) (k : AllSame B C) : AllSame A C := fun i c T fr hi => k i c T fr (h i c T fr hi)
theorem AllSame.below {W W' : World} (hb : Below W.heap.size W W') : AllSame W W' := fun k _ _ _ h => (hb.block k (Array.getElem?_eq_some_iff.1 h).1).trans h
theorem AllSame.drewN (W : World) (n : Nat) : AllSame W (W.drewN n) := fun _ _ _ _ h => h
theorem AllSame.grown {W W' : World} {row : Option Nat} (hg : W.grownBy W' row) (hr : ∀ r, row = some r → ∃ o : Obj, W.heap[r]? = some o ∧ o.isCells = false) : AllSame W W' := fun k c T fr h => by
  refine (hg.block k (Array.getElem?_eq_some_iff.1 h).1 fun e => ?_).trans h
  obtain ⟨o, ho, hc⟩ := hr k e.symm
  rw [h] at ho
  injection ho with ho
  subst ho
  cases hc
/-- What stands between two lines: the results' boxes, the graph and the number of lines in theirs, the iterator's box. -/
structure Rd (b : Nat) (g : Grf) (An At : Option Addr) (cn ct : Nat) (xs : List Value) (pre : List (List UInt8)) (W : World) : Prop where
  r0 : W.heap[b]? = some (.cells #[.slice none 0 0, .slice none 0 0] 25 (0, 0))
  r1 : W.heap[b + 1]? = some (.cells #[.int .i64 0] 3 (0, 0))
  r2 : W.heap[b + 1 + 1]? = some (.cells #[.nilIface] 29 (0, 0))
  gb : W.heap[b + 1 + 1 + 1]? = some (.cells #[.slice An g.nodes.length cn, .slice At g.ties.length ct] 25 (0, 0))
  nb : W.heap[b + 1 + 1 + 1 + 1]? = some (.cells #[.int .i64 (pre.length : Nat)] 3 (0, 0))
  qb : ∃ s, W.heap[b + 1 + 1 + 1 + 1 + 1]? = some (.cells #[s] 9 (0, 0))
  on : Own W b 98 3 (.slice An g.nodes.length cn) g.nodes.length xs
  nn : OwnNods W b g.nodes xs
  ot : Own W b 102 3 (.slice At g.ties.length ct) g.ties.length (g.ties.flatMap Tie.enc)
  tt : ∀ t ∈ g.ties, t.ok
  run : ∀ rest, runT ⟨[], []⟩ 0 (pre ++ rest) = runT g pre.length rest
  low : b < W.heap.size
theorem Rd.all {b : Nat} {g : Grf} {An At : Option Addr} {cn ct : Nat} {xs : List Value} {pre : List (List UInt8)} {W W' : World} (h : Rd b g An At cn ct xs pre W) (hs : AllSame W W') : Rd b g An At cn ct xs pre W' where
  r0 := hs _ _ _ _ h.r0
  r1 := hs _ _ _ _ h.r1
  r2 := hs _ _ _ _ h.r2
  gb := hs _ _ _ _ h.gb
  nb := hs _ _ _ _ h.nb
  qb := by obtain ⟨s, hq⟩ := h.qb; exact ⟨s, hs _ _ _ _ hq⟩
  on := h.on.same (hs.same _)
  nn := h.nn.same (hs.same _)
  ot := h.ot.same (hs.same _)
  tt := h.tt
  run := h.run
  low := (Array.getElem?_eq_some_iff.1 (hs _ _ _ _ h.r0)).1
theorem setCell_other {w : World} {k q : Nat} {o : Obj} (h : w.heap[k]? = some o) (hne : k ≠ q) (i : Nat) (v : Value) : (w.setCell ⟨q, i, none⟩ v).heap[k]? = some o := (Below.heap_setCell w ⟨q, i, none⟩ v k hne).trans h
/-- The iterator's own steps leave it true. -/
theorem Rd.step {b : Nat} {g : Grf} {An At : Option Addr} {cn ct : Nat} {xs : List Value} {pre : List (List UInt8)} {X Y : World} (h : Rd b g An At cn ct xs pre X) (hs : LStep (b + 1 + 1 + 1 + 1 + 1) X Y) : Rd b g An At cn ct xs pre Y := by
  rcases hs with ⟨m, rfl⟩ | ⟨v, m, rfl⟩
  · exact h.all (.drewN _ _)
  · refine Rd.all (W := X.setCell ⟨b + 1 + 1 + 1 + 1 + 1, 0, none⟩ v) ?_ (.drewN _ _)
    obtain ⟨s, hq⟩ := h.qb
    have hS : ∀ T, 9 ≠ T → Same T X (X.setCell ⟨b + 1 + 1 + 1 + 1 + 1, 0, none⟩ v) := fun T hT => .setCell (p := ⟨b + 1 + 1 + 1 + 1 + 1, 0, none⟩) hq hT v
    exact ⟨setCell_other h.r0 (by omega) _ _, setCell_other h.r1 (by omega) _ _, setCell_other h.r2 (by omega) _ _, setCell_other h.gb (by omega) _ _, setCell_other h.nb (by omega) _ _, ⟨v, setCell_block hq 0 v⟩,
      h.on.same (hS _ (by decide)), h.nn.same (hS _ (by decide)), h.ot.same (hS _ (by decide)), h.tt, h.run, by simp [World.setCell]; exact h.low⟩
/-- The results of a text whose line is wrong. -/
structure Rx (b : Nat) (pre : List (List UInt8)) (W : World) : Prop where
  r0 : W.heap[b]? = some (.cells #[.slice none 0 0, .slice none 0 0] 25 (0, 0))
  k : ∃ k : Nat, W.heap[b + 1]? = some (.cells #[.int .i64 k] 3 (0, 0)) ∧ ∀ rest, runT ⟨[], []⟩ 0 (pre ++ rest) = .error k
  r2 : W.heap[b + 1 + 1]? = some (.cells #[.iface 115 (.int .i64 2)] 29 (0, 0))
  qb : ∃ s, W.heap[b + 1 + 1 + 1 + 1 + 1]? = some (.cells #[s] 9 (0, 0))
theorem Rx.all {b : Nat} {pre : List (List UInt8)} {W W' : World} (h : Rx b pre W) (hs : AllSame W W') : Rx b pre W' where
  r0 := hs _ _ _ _ h.r0
  k := by obtain ⟨k, h1, h2⟩ := h.k; exact ⟨k, hs _ _ _ _ h1, h2⟩
  r2 := hs _ _ _ _ h.r2
  qb := by obtain ⟨s, hq⟩ := h.qb; exact ⟨s, hs _ _ _ _ hq⟩
theorem Rx.step {b : Nat} {pre : List (List UInt8)} {X Y : World} (h : Rx b pre X) (hs : LStep (b + 1 + 1 + 1 + 1 + 1) X Y) : Rx b pre Y := by
  rcases hs with ⟨m, rfl⟩ | ⟨v, m, rfl⟩
  · exact h.all (.drewN _ _)
  · obtain ⟨k, h1, h2⟩ := h.k
    obtain ⟨s, hq⟩ := h.qb
    exact ⟨setCell_other h.r0 (by omega) _ _, ⟨k, setCell_other h1 (by omega) _ _, h2⟩, setCell_other h.r2 (by omega) _ _, ⟨v, setCell_block hq 0 v⟩⟩
/-- A line more. -/
theorem run_more {g g' : Grf} {pre : List (List UInt8)} {x : List UInt8} (h : ∀ rest, runT ⟨[], []⟩ 0 (pre ++ rest) = runT g pre.length rest) (hx : lineT g x = some g') : ∀ rest, runT ⟨[], []⟩ 0 ((pre ++ [x]) ++ rest) = runT g' (pre ++ [x]).length rest := fun rest => by
  rw [List.append_assoc, h, List.length_append]
  show (match lineT g x with | none => _ | some g' => _) = _
  rw [hx]; rfl
theorem run_wrong {g : Grf} {pre : List (List UInt8)} {x : List UInt8} (h : ∀ rest, runT ⟨[], []⟩ 0 (pre ++ rest) = runT g pre.length rest) (hx : lineT g x = none) : ∀ rest, runT ⟨[], []⟩ 0 ((pre ++ [x]) ++ rest) = .error pre.length := fun rest => by
  rw [List.append_assoc, h]
  show (match lineT g x with | none => _ | some g' => _) = _
  rw [hx]
/-- What a round keeps, out of what its steps keep. -/
theorem KeepsFrom.below {B : Nat} {W W' : World} (h : Below W.heap.size W W') : KeepsFrom B W W' := ⟨h.size, fun k _ _ hk _ => (h.block k (Array.getElem?_eq_some_iff.1 hk).1).trans hk⟩
theorem KeepsFrom.setCell {B q : Nat} (W : World) (hq : q < B) (i : Nat) (v : Value) : KeepsFrom B W (W.setCell ⟨q, i, none⟩ v) := ⟨by simp [World.setCell], fun _ _ hB hk _ => setCell_other hk (by omega) i v⟩
theorem KeepsFrom.append {B : Nat} {W W' : World} {e : TypeId} {B' sz n : Nat} {v : Value} {xs : List Value} (ho : Own W B' e sz v n xs) (hg : W.grownBy W' v.ownBlock) : KeepsFrom B W W' :=
  ⟨hg.size, fun k o _ hk hc => (hg.block k (Array.getElem?_eq_some_iff.1 hk).1 (fun e => by
    rcases ho.2 with ⟨rfl, _⟩ | ⟨g, _, _, _, rfl, _, hg2, _⟩
    · simp [Value.ownBlock] at e
    · simp [Value.ownBlock] at e
      subst e
      rw [hk] at hg2
      injection hg2 with hg2
      subst hg2
      cases hc)).trans hk⟩

section
variable {b : Nat} {g : Grf} {An At : Option Addr} {cn ct : Nat} {xs : List Value} {pre : List (List UInt8)} {W W5 : World}
/-- What an append onto the nodes leaves of the rest. -/
theorem Rd.after_nodes (h : Rd b g An At cn ct xs pre W) (hg : W.grownBy W5 (Value.slice An g.nodes.length cn).ownBlock) :
    W5.heap[b]? = some (.cells #[.slice none 0 0, .slice none 0 0] 25 (0, 0)) ∧ W5.heap[b + 1]? = some (.cells #[.int .i64 0] 3 (0, 0)) ∧ W5.heap[b + 1 + 1]? = some (.cells #[.nilIface] 29 (0, 0)) ∧
    W5.heap[b + 1 + 1 + 1]? = some (.cells #[.slice An g.nodes.length cn, .slice At g.ties.length ct] 25 (0, 0)) ∧ W5.heap[b + 1 + 1 + 1 + 1]? = some (.cells #[.int .i64 (pre.length : Nat)] 3 (0, 0)) ∧
    (∃ s, W5.heap[b + 1 + 1 + 1 + 1 + 1]? = some (.cells #[s] 9 (0, 0))) ∧ OwnNods W5 b g.nodes xs ∧ Own W5 b 102 3 (.slice At g.ties.length ct) g.ties.length (g.ties.flatMap Tie.enc) := by
  obtain ⟨s, hq⟩ := h.qb
  exact ⟨grown_block hg h.r0 (h.on.ne_block h.r0 (by decide)), grown_block hg h.r1 (h.on.ne_block h.r1 (by decide)), grown_block hg h.r2 (h.on.ne_block h.r2 (by decide)), grown_block hg h.gb (h.on.ne_block h.gb (by decide)),
    grown_block hg h.nb (h.on.ne_block h.nb (by decide)), ⟨s, grown_block hg hq (h.on.ne_block hq (by decide))⟩, h.nn.same (.grown h.on (by decide) hg), h.ot.same (.grown h.on (by decide) hg)⟩
theorem Rd.after_ties (h : Rd b g An At cn ct xs pre W) (hg : W.grownBy W5 (Value.slice At g.ties.length ct).ownBlock) :
    W5.heap[b]? = some (.cells #[.slice none 0 0, .slice none 0 0] 25 (0, 0)) ∧ W5.heap[b + 1]? = some (.cells #[.int .i64 0] 3 (0, 0)) ∧ W5.heap[b + 1 + 1]? = some (.cells #[.nilIface] 29 (0, 0)) ∧
    W5.heap[b + 1 + 1 + 1]? = some (.cells #[.slice An g.nodes.length cn, .slice At g.ties.length ct] 25 (0, 0)) ∧ W5.heap[b + 1 + 1 + 1 + 1]? = some (.cells #[.int .i64 (pre.length : Nat)] 3 (0, 0)) ∧
    (∃ s, W5.heap[b + 1 + 1 + 1 + 1 + 1]? = some (.cells #[s] 9 (0, 0))) ∧ OwnNods W5 b g.nodes xs ∧ Own W5 b 98 3 (.slice An g.nodes.length cn) g.nodes.length xs := by
  obtain ⟨s, hq⟩ := h.qb
  exact ⟨grown_block hg h.r0 (h.ot.ne_block h.r0 (by decide)), grown_block hg h.r1 (h.ot.ne_block h.r1 (by decide)), grown_block hg h.r2 (h.ot.ne_block h.r2 (by decide)), grown_block hg h.gb (h.ot.ne_block h.gb (by decide)),
    grown_block hg h.nb (h.ot.ne_block h.nb (by decide)), ⟨s, grown_block hg hq (h.ot.ne_block hq (by decide))⟩, h.nn.same (.grown h.ot (by decide) hg), h.on.same (.grown h.ot (by decide) hg)⟩
/-- The results are laid: a line is wrong. -/
theorem rx_of {P : List (List UInt8)} {k : Nat} (r0 : W.heap[b]? = some (.cells #[.slice none 0 0, .slice none 0 0] 25 (0, 0))) (r1 : W.heap[b + 1]? = some (.cells #[.int .i64 0] 3 (0, 0))) (r2 : W.heap[b + 1 + 1]? = some (.cells #[.nilIface] 29 (0, 0)))
    (qb : ∃ s, W.heap[b + 1 + 1 + 1 + 1 + 1]? = some (.cells #[s] 9 (0, 0))) (hk : ∀ rest, runT ⟨[], []⟩ 0 (P ++ rest) = .error k) :
    Rx b P ((((W.setCell ⟨b, 0, none⟩ (.slice none 0 0)).setCell ⟨b, 1, none⟩ (.slice none 0 0)).setCell ⟨b + 1, 0, none⟩ (.int .i64 k)).setCell ⟨b + 1 + 1, 0, none⟩ (.iface 115 (.int .i64 2))).drew := by
  obtain ⟨s, hq⟩ := qb
  refine Rx.all ?_ (.drewN _ 1)
  have a0 := setCell_block (setCell_block r0 0 (.slice none 0 0)) 1 (.slice none 0 0)
  have a1 := setCell_other (setCell_other r1 (q := b) (by omega) 0 (.slice none 0 0)) (q := b) (by omega) 1 (.slice none 0 0)
  have a2 := setCell_other (setCell_other r2 (q := b) (by omega) 0 (.slice none 0 0)) (q := b) (by omega) 1 (.slice none 0 0)
  have aq := setCell_other (setCell_other hq (q := b) (by omega) 0 (.slice none 0 0)) (q := b) (by omega) 1 (.slice none 0 0)
  have b1 := setCell_block a1 0 (.int .i64 k)
  exact ⟨setCell_other (setCell_other a0 (by omega) _ _) (by omega) _ _, ⟨k, setCell_other b1 (by omega) _ _, hk⟩, setCell_block (setCell_other a2 (by omega) _ _) 0 _, ⟨s, setCell_other (setCell_other aq (by omega) _ _) (by omega) _ _⟩⟩
/-- A line more: what was appended is stored, and the number of lines. -/
theorem Rd.store {g' : Grf} {A9 A8 : Option Addr} {c9 c8 : Nat} {ys : List Value} {P : List (List UInt8)} {i : Nat} {u : Value} (hlow : b < W.heap.size)
    (r0 : W.heap[b]? = some (.cells #[.slice none 0 0, .slice none 0 0] 25 (0, 0))) (r1 : W.heap[b + 1]? = some (.cells #[.int .i64 0] 3 (0, 0))) (r2 : W.heap[b + 1 + 1]? = some (.cells #[.nilIface] 29 (0, 0)))
    (gb : W.heap[b + 1 + 1 + 1]? = some (.cells #[.slice An g.nodes.length cn, .slice At g.ties.length ct] 25 (0, 0))) (nb : W.heap[b + 1 + 1 + 1 + 1]? = some (.cells #[.int .i64 (pre.length : Nat)] 3 (0, 0)))
    (qb : ∃ s, W.heap[b + 1 + 1 + 1 + 1 + 1]? = some (.cells #[s] 9 (0, 0)))
    (hu : (#[Value.slice An g.nodes.length cn, Value.slice At g.ties.length ct]).setIfInBounds i u = #[.slice A9 g'.nodes.length c9, .slice A8 g'.ties.length c8])
    (on : Own W b 98 3 (.slice A9 g'.nodes.length c9) g'.nodes.length ys) (nn : OwnNods W b g'.nodes ys) (ot : Own W b 102 3 (.slice A8 g'.ties.length c8) g'.ties.length (g'.ties.flatMap Tie.enc)) (tt : ∀ t ∈ g'.ties, t.ok)
    (run : ∀ rest, runT ⟨[], []⟩ 0 (P ++ rest) = runT g' P.length rest) :
    Rd b g' A9 A8 c9 c8 ys P ((W.setCell ⟨b + 1 + 1 + 1, i, none⟩ u).setCell ⟨b + 1 + 1 + 1 + 1, 0, none⟩ (.int .i64 (P.length : Nat))) := by
  obtain ⟨s, hq⟩ := qb
  have g1 := setCell_block gb i u
  rw [hu] at g1
  have n1 := setCell_other nb (q := b + 1 + 1 + 1) (by omega) i u
  have s1 : ∀ T, 25 ≠ T → Same T W (W.setCell ⟨b + 1 + 1 + 1, i, none⟩ u) := fun T hT => .setCell (p := ⟨b + 1 + 1 + 1, i, none⟩) gb hT u
  have s2 : ∀ T, 3 ≠ T → Same T (W.setCell ⟨b + 1 + 1 + 1, i, none⟩ u) ((W.setCell ⟨b + 1 + 1 + 1, i, none⟩ u).setCell ⟨b + 1 + 1 + 1 + 1, 0, none⟩ (.int .i64 (P.length : Nat))) := fun T hT => .setCell (p := ⟨b + 1 + 1 + 1 + 1, 0, none⟩) n1 hT _
  have s3 : ∀ T, 25 ≠ T → 3 ≠ T → Same T W ((W.setCell ⟨b + 1 + 1 + 1, i, none⟩ u).setCell ⟨b + 1 + 1 + 1 + 1, 0, none⟩ (.int .i64 (P.length : Nat))) := fun T h1 h2 => (s1 T h1).trans (s2 T h2)
  exact ⟨setCell_other (setCell_other r0 (by omega) _ _) (by omega) _ _, setCell_other (setCell_other r1 (by omega) _ _) (by omega) _ _, setCell_other (setCell_other r2 (by omega) _ _) (by omega) _ _,
    setCell_other g1 (by omega) _ _, setCell_block n1 0 _, ⟨s, setCell_other (setCell_other hq (by omega) _ _) (by omega) _ _⟩,
    on.same (s3 _ (by decide) (by decide)), nn.same (s3 _ (by decide) (by decide)), ot.same (s3 _ (by decide) (by decide)), tt, run, by simp [World.setCell]; exact hlow⟩
end

theorem bs_lit {K L M : List UInt8} (h : (bs L).toList = M) : ((bs K).toList = M) = (K = L) := propext
  ⟨fun e => by
    have e2 : bs K = bs L := by rw [← bytes_eq, h]; exact e
    simpa [bs] using congrArg (·.data.toList) e2, fun e => by rw [e]; exact h⟩
theorem trim_len (x : List UInt8) : (Lib.trimSuffix x [10]).length ≤ x.length := by
  rcases suffix_cases x with h | ⟨a, rfl⟩
  · unfold Lib.trimSuffix; rw [h]; exact Nat.le_refl _
  · rw [(suffix_line a).2]; simp
theorem lineT_eq {g : Grf} {x K R : List UInt8} {sf : Bool} (h1 : Lib.hasSuffix x [10] = sf) (h2 : (Lib.cut (Lib.trimSuffix x [10]) [32]).1 = K) (h3 : (Lib.cut (Lib.trimSuffix x [10]) [32]).2.1 = R) :
    lineT g x = if sf = true then (if K = nodeW ∧ g.ties.length = 0 then (readNodL R).map fun n => ⟨g.nodes ++ [n], g.ties⟩ else if K = tieW then (readTieL R).map fun t => ⟨g.nodes, g.ties ++ [t]⟩ else none) else none := by
  subst h1; subst h2; subst h3; rfl
section
variable {b B : Nat} {w W X V : World} {g : Grf} {An At : Option Addr} {cn ct : Nat} {xs : List Value} {pre : List (List UInt8)}
theorem wrong_end {P : List (List UInt8)} {k : Nat} (hB : b + 6 ≤ B) (hk : KeepsFrom B W X) (hb : Below b w X)
    (r0 : X.heap[b]? = some (.cells #[.slice none 0 0, .slice none 0 0] 25 (0, 0))) (r1 : X.heap[b + 1]? = some (.cells #[.int .i64 0] 3 (0, 0))) (r2 : X.heap[b + 1 + 1]? = some (.cells #[.nilIface] 29 (0, 0)))
    (qb : ∃ s, X.heap[b + 1 + 1 + 1 + 1 + 1]? = some (.cells #[s] 9 (0, 0))) (hk2 : ∀ rest, runT ⟨[], []⟩ 0 (P ++ rest) = .error k) {Z : World}
    (hZ : Z = ((((X.setCell ⟨b, 0, none⟩ (.slice none 0 0)).setCell ⟨b, 1, none⟩ (.slice none 0 0)).setCell ⟨b + 1, 0, none⟩ (.int .i64 k)).setCell ⟨b + 1 + 1, 0, none⟩ (.iface 115 (.int .i64 2))).drew) :
    KeepsFrom B W Z ∧ Code.ret = Code.ret ∧ Rx b P Z ∧ Below b w Z := by
  subst hZ
  refine ⟨?_, rfl, rx_of r0 r1 r2 qb hk2, ?_⟩
  · exact KeepsFrom.trans (((((hk.trans (KeepsFrom.setCell (q := b) _ (by omega) 0 (.slice none 0 0))).trans (KeepsFrom.setCell (q := b) _ (by omega) 1 (.slice none 0 0))).trans (KeepsFrom.setCell (q := b + 1) _ (by omega) 0 (.int .i64 k))).trans (KeepsFrom.setCell (q := b + 1 + 1) _ (by omega) 0 (.iface 115 (.int .i64 2))))) (KeepsFrom.below (below_drewN (Below.refl _ _) 1))
  · exact below_drewN ((((hb.setCell (p := ⟨b, 0, none⟩) (Nat.le_refl _) _).setCell (p := ⟨b, 1, none⟩) (Nat.le_refl _) _).setCell (p := ⟨b + 1, 0, none⟩) (by show b ≤ b + 1; omega) _).setCell (p := ⟨b + 1 + 1, 0, none⟩) (by show b ≤ b + 1 + 1; omega) _) 1
theorem more_end {i : Nat} {u v : Value} (hB : b + 6 ≤ B) (hk : KeepsFrom B W X) (hb : Below b w X) (hl : Below b W X) (hq : X.heap[b + 1 + 1 + 1 + 1 + 1]? = W.heap[b + 1 + 1 + 1 + 1 + 1]?) {Z : World} (hZ : Z = (X.setCell ⟨b + 1 + 1 + 1, i, none⟩ u).setCell ⟨b + 1 + 1 + 1 + 1, 0, none⟩ v) :
    KeepsFrom B W Z ∧ LKeep b (b + 1 + 1 + 1 + 1 + 1) W Z ∧ Below b w Z := by
  subst hZ
  refine ⟨(hk.trans (KeepsFrom.setCell (q := b + 1 + 1 + 1) _ (by omega) _ _)).trans (KeepsFrom.setCell (q := b + 1 + 1 + 1 + 1) _ (by omega) _ _), ⟨?_, ?_⟩, ?_⟩
  · exact (hl.setCell (p := ⟨b + 1 + 1 + 1, i, none⟩) (by show b ≤ b + 1 + 1 + 1; omega) _).setCell (p := ⟨b + 1 + 1 + 1 + 1, 0, none⟩) (by show b ≤ b + 1 + 1 + 1 + 1; omega) _
  · exact (Below.heap_setCell _ _ _ _ (by show b + 1 + 1 + 1 + 1 + 1 ≠ b + 1 + 1 + 1 + 1; omega)).trans ((Below.heap_setCell _ _ _ _ (by show b + 1 + 1 + 1 + 1 + 1 ≠ b + 1 + 1 + 1; omega)).trans hq)
  · exact (hb.setCell (p := ⟨b + 1 + 1 + 1, i, none⟩) (by show b ≤ b + 1 + 1 + 1; omega) _).setCell (p := ⟨b + 1 + 1 + 1 + 1, 0, none⟩) (by show b ≤ b + 1 + 1 + 1 + 1; omega) _
theorem Rd.app_n (h0 : Rd b g An At cn ct xs pre W) (hb : Below W.heap.size W V) (hg : V.grownBy X (Value.slice An g.nodes.length cn).ownBlock) :
    KeepsFrom B W X ∧ Below b W X ∧ X.heap[b + 1 + 1 + 1 + 1 + 1]? = W.heap[b + 1 + 1 + 1 + 1 + 1]? := by
  have hV := h0.all (.below hb)
  have hlow := h0.low
  obtain ⟨s, hq⟩ := h0.qb
  obtain ⟨s2, hq2⟩ := hV.qb
  have hlt := (Array.getElem?_eq_some_iff.1 hq).1
  exact ⟨(KeepsFrom.below hb).trans (KeepsFrom.append hV.on hg), (hb.mono (by omega)).grown hg (by have := hb.size; omega) (fun k e => (hV.on.lt k e).1),
    (hg.block _ (Array.getElem?_eq_some_iff.1 hq2).1 (hV.on.ne_block hq2 (by decide))).trans (hb.block _ hlt)⟩
theorem Rd.app_t (h0 : Rd b g An At cn ct xs pre W) (hb : Below W.heap.size W V) (hg : V.grownBy X (Value.slice At g.ties.length ct).ownBlock) :
    KeepsFrom B W X ∧ Below b W X ∧ X.heap[b + 1 + 1 + 1 + 1 + 1]? = W.heap[b + 1 + 1 + 1 + 1 + 1]? := by
  have hV := h0.all (.below hb)
  have hlow := h0.low
  obtain ⟨s, hq⟩ := h0.qb
  obtain ⟨s2, hq2⟩ := hV.qb
  have hlt := (Array.getElem?_eq_some_iff.1 hq).1
  exact ⟨(KeepsFrom.below hb).trans (KeepsFrom.append hV.ot hg), (hb.mono (by omega)).grown hg (by have := hb.size; omega) (fun k e => (hV.ot.lt k e).1),
    (hg.block _ (Array.getElem?_eq_some_iff.1 hq2).1 (hV.ot.ne_block hq2 (by decide))).trans (hb.block _ hlt)⟩
end

theorem grfR_none (w : World) : GrfR w (.slice none 0 0) (.slice none 0 0) ⟨[], []⟩ := ⟨Own.nods (Own.nil w 0 98 3) (show OwnNods w 0 [] [] from rfl), Own.ties (Own.nil w 0 102 3) (fun x hx => by cases hx)⟩
section
variable {b D : Nat} {w Z : World}
/-- The results, behind the taking of the deferred calls. -/
theorem res_cells {vn vt n e : Value} {o : Obj} (r0 : Z.heap[b]? = some (.cells #[vn, vt] 25 (0, 0))) (r1 : Z.heap[b + 1]? = some (.cells #[n] 3 (0, 0))) (r2 : Z.heap[b + 1 + 1]? = some (.cells #[e] 29 (0, 0))) (hD : b + 6 ≤ D) :
    (Z.putObj D o).cell? ⟨b, 0, none⟩ = some vn ∧ (Z.putObj D o).cell? ⟨b, 1, none⟩ = some vt ∧ (Z.putObj D o).cell? ⟨b + 1, 0, none⟩ = some n ∧ (Z.putObj D o).cell? ⟨b + 1 + 1, 0, none⟩ = some e :=
  ⟨block_cell ((World.putObj_heap_other (by omega)).trans r0) 0, block_cell ((World.putObj_heap_other (by omega)).trans r0) 1, block_cell ((World.putObj_heap_other (by omega)).trans r1) 0, block_cell ((World.putObj_heap_other (by omega)).trans r2) 0⟩
theorem AllSame.putObj {o o' : Obj} (h : Z.heap[D]? = some o) (hc : o.isCells = false) : AllSame Z (Z.putObj D o') := fun k c T fr hk => by
  by_cases hkd : k = D
  · subst hkd; rw [h] at hk; injection hk with hk; subst hk; cases hc
  · exact (World.putObj_heap_other hkd).trans hk
theorem below_putObj {o : Obj} (hb : Below w.heap.size w Z) (hD : w.heap.size ≤ D) : Below w.heap.size w (Z.putObj D o) := hb.grown (grownBy_putObj' Z D o) hb.size (fun k e => by injection e with e; omega)
theorem GrfR.set {W : World} {g : Grf} {An At : Option Addr} {cn ct : Nat} {xs : List Value} {pre : List (List UInt8)} (h : Rd b g An At cn ct xs pre W) (hs : ∀ T', 25 ≠ T' → 3 ≠ T' → 29 ≠ T' → Same T' W Z) : GrfR Z (.slice An g.nodes.length cn) (.slice At g.ties.length ct) g :=
  ⟨Own.nods (h.on.same (hs _ (by decide) (by decide) (by decide))) (h.nn.same (hs _ (by decide) (by decide) (by decide))), Own.ties (h.ot.same (hs _ (by decide) (by decide) (by decide))) h.tt⟩
/-- Three stores into the results. -/
theorem three_set {W : World} {a0 a1 a2 a3 n e : Value} {v0 v1 : Value} (r0 : W.heap[b]? = some (.cells #[a0, a1] 25 (0, 0))) (r1 : W.heap[b + 1]? = some (.cells #[a2] 3 (0, 0))) (r2 : W.heap[b + 1 + 1]? = some (.cells #[a3] 29 (0, 0))) (hb : Below b w W) :
    let Y := (((W.setCell ⟨b, 0, none⟩ v0).setCell ⟨b, 1, none⟩ v1).setCell ⟨b + 1, 0, none⟩ n).setCell ⟨b + 1 + 1, 0, none⟩ e
    Y.heap[b]? = some (.cells #[v0, v1] 25 (0, 0)) ∧ Y.heap[b + 1]? = some (.cells #[n] 3 (0, 0)) ∧ Y.heap[b + 1 + 1]? = some (.cells #[e] 29 (0, 0)) ∧ Below b w Y ∧ (∀ k o, b + 3 ≤ k → W.heap[k]? = some o → Y.heap[k]? = some o) ∧ (∀ T', 25 ≠ T' → 3 ≠ T' → 29 ≠ T' → Same T' W Y) := by
  intro Y
  have a0' := setCell_block (setCell_block r0 0 v0) 1 v1
  have a1' := setCell_other (setCell_other r1 (q := b) (by omega) 0 v0) (q := b) (by omega) 1 v1
  have a2' := setCell_other (setCell_other r2 (q := b) (by omega) 0 v0) (q := b) (by omega) 1 v1
  have b1 := setCell_block a1' 0 n
  have b2 := setCell_other a2' (q := b + 1) (by omega) 0 n
  refine ⟨setCell_other (setCell_other a0' (by omega) _ _) (by omega) _ _, setCell_other b1 (by omega) _ _, setCell_block b2 0 _, ?_, ?_, ?_⟩
  · exact (((hb.setCell (p := ⟨b, 0, none⟩) (Nat.le_refl _) _).setCell (p := ⟨b, 1, none⟩) (Nat.le_refl _) _).setCell (p := ⟨b + 1, 0, none⟩) (by show b ≤ b + 1; omega) _).setCell (p := ⟨b + 1 + 1, 0, none⟩) (by show b ≤ b + 1 + 1; omega) _
  · intro k o hk h
    exact setCell_other (setCell_other (setCell_other (setCell_other h (by omega) _ _) (by omega) _ _) (by omega) _ _) (by omega) _ _
  · intro T' h1 h2 h3
    exact (((Same.setCell (p := ⟨b, 0, none⟩) r0 h1 v0).trans (Same.setCell (p := ⟨b, 1, none⟩) (setCell_block r0 0 v0) h1 v1)).trans (Same.setCell (p := ⟨b + 1, 0, none⟩) a1' h2 n)).trans (Same.setCell (p := ⟨b + 1 + 1, 0, none⟩) b2 h3 e)
end
theorem read_ok {l : List UInt8} {g : Grf} {L : List (List UInt8)} {n : Nat} (h : ∀ rest, runT ⟨[], []⟩ 0 (L ++ rest) = runT g n rest) (hL : L = linesL l) : readTE l = grfE g ∧ readTN l = 0 ∧ readTV l = if grfE g = 0 then g else ⟨[], []⟩ := by
  have hr : runT ⟨[], []⟩ 0 (linesL l) = .ok g := by rw [← hL]; have := h []; rw [List.append_nil] at this; exact this
  unfold readTE readTN readTV
  rw [hr]
  exact ⟨rfl, rfl, rfl⟩
theorem read_bad {l : List UInt8} {L : List (List UInt8)} {k : Nat} (h : ∀ rest, runT ⟨[], []⟩ 0 (L ++ rest) = .error k) (hL : L <+: linesL l) : readTE l = 2 ∧ readTN l = k ∧ readTV l = ⟨[], []⟩ := by
  obtain ⟨t, ht⟩ := hL
  have hr : runT ⟨[], []⟩ 0 (linesL l) = .error k := by rw [← ht]; exact h t
  unfold readTE readTN readTV
  rw [hr]
  exact ⟨rfl, rfl, rfl⟩
end Go.Proofs.YtflidfmpmakggaaGreatDoor
