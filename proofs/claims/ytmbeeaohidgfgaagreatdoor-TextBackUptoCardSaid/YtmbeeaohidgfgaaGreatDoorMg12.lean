/- Parts: VtG. -/
import Derived.Test.YtmbeeaohidgfgaaGreatDoorMg11
/- Plain: lines; a text as a graph. No condition. -/
namespace Go.Proofs.YtmbeeaohidgfgaaGreatDoor
open Go

/-- A text's lines, each with its end. -/
def linesF (cur : List UInt8) : List UInt8 → List (List UInt8)
  | [] => if cur = [] then [] else [cur]
  | c :: l => if c = 10 then (cur ++ [10]) :: linesF [] l else linesF (cur ++ [c]) l
theorem linesF_cons (cur : List UInt8) (c : UInt8) (l : List UInt8) : linesF cur (c :: l) = if c = 10 then (cur ++ [10]) :: linesF [] l else linesF (cur ++ [c]) l := rfl
def linesL (l : List UInt8) : List (List UInt8) := linesF [] l
theorem linesF_sign : ∀ (a r cur : List UInt8), noB 10 a → linesF cur (a ++ 10 :: r) = (cur ++ a ++ [10]) :: linesL r
  | [], r, cur, _ => by
    show linesF cur (10 :: r) = _
    rw [linesF_cons, if_pos rfl, List.append_nil]; rfl
  | x :: a, r, cur, h => by
    show linesF cur (x :: (a ++ 10 :: r)) = _
    rw [linesF_cons, if_neg (h x (by simp)), linesF_sign a r _ fun y hy => h y (List.mem_cons_of_mem _ hy)]
    simp
theorem linesF_no : ∀ (a cur : List UInt8), noB 10 a → linesF cur a = if cur ++ a = [] then [] else [cur ++ a]
  | [], cur, _ => by rw [List.append_nil]; rfl
  | x :: a, cur, h => by
    rw [linesF_cons, if_neg (h x (by simp)), linesF_no a _ fun y hy => h y (List.mem_cons_of_mem _ hy)]
    simp
theorem lines_sign {a r : List UInt8} (h : noB 10 a) : linesL (a ++ 10 :: r) = (a ++ [10]) :: linesL r := by
  have := linesF_sign a r [] h
  rw [List.nil_append] at this
  exact this
theorem lines_no {a : List UInt8} (h : noB 10 a) (h0 : a ≠ []) : linesL a = [a] := by
  unfold linesL
  rw [linesF_no a [] h, if_neg (by simpa using h0)]; rfl
theorem lines_nil : linesL [] = [] := rfl
theorem lines_whole : ∀ (n : Nat) (l : List UInt8), l.length ≤ n → (linesL l).flatten = l
  | n, l, hn => by
    by_cases h0 : l = []
    · subst h0; rfl
    rcases first_sign 10 l with h | ⟨a, r, rfl, h⟩
    · rw [lines_no h h0]; simp
    · cases n with
      | zero => simp at hn
      | succ n =>
        rw [lines_sign h, List.flatten_cons, lines_whole n r (by simp at hn; omega)]; simp
theorem suffix_line (a : List UInt8) : Lib.hasSuffix (a ++ [10]) [10] = true ∧ Lib.trimSuffix (a ++ [10]) [10] = a := by
  have h : Lib.hasSuffix (a ++ [10]) [10] = true := by
    unfold Lib.hasSuffix
    rw [List.isSuffixOf_iff_suffix]
    exact ⟨a, rfl⟩
  refine ⟨h, ?_⟩
  unfold Lib.trimSuffix
  rw [h, if_pos rfl]
  simp
theorem suffix_cases (x : List UInt8) : Lib.hasSuffix x [10] = false ∨ ∃ a, x = a ++ [10] := by
  cases h : Lib.hasSuffix x [10] with
  | false => exact .inl rfl
  | true =>
    unfold Lib.hasSuffix at h
    rw [List.isSuffixOf_iff_suffix] at h
    obtain ⟨a, e⟩ := h
    exact .inr ⟨a, e.symm⟩
/-- Cut in three. -/
theorem splitK_hit1 {c : UInt8} {a r : List UInt8} (h : noB c a) (k : Nat) : Lib.splitK [c] 0 (k + 1) (a ++ c :: r) = a :: Lib.splitK [c] 0 k r := by
  show (if Lib.index (a ++ c :: r) [c] == -1 then [a ++ c :: r] else (a ++ c :: r).take ((Lib.index (a ++ c :: r) [c]).toNat + 0) :: Lib.splitK [c] 0 k ((a ++ c :: r).drop ((Lib.index (a ++ c :: r) [c]).toNat + 1))) = _
  rw [index_sign h, if_neg (by simp)]
  simp
theorem splitK_no {c : UInt8} {a : List UInt8} (h : noB c a) (k : Nat) : Lib.splitK [c] 0 k a = [a] := by
  cases k with
  | zero => rfl
  | succ k =>
    show (if Lib.index a [c] == -1 then [a] else _) = _
    rw [index_no h, if_pos (by decide)]
theorem split3_of {c : UInt8} {a b r : List UInt8} (ha : noB c a) (hb : noB c b) : Lib.splitN (a ++ c :: (b ++ c :: r)) [c] 3 = [a, b, r] := by
  unfold Lib.splitN
  have e : min 3 ((a ++ c :: (b ++ c :: r)).length + 1) - 1 = 2 := by simp; omega
  rw [e, splitK_hit1 ha, splitK_hit1 hb]; rfl
theorem split3_iff {c : UInt8} {l a b r : List UInt8} : Lib.splitN l [c] 3 = [a, b, r] ↔ l = a ++ c :: (b ++ c :: r) ∧ noB c a ∧ noB c b := by
  constructor
  · intro h
    unfold Lib.splitN at h
    obtain ⟨k, hk, hk2⟩ : ∃ k, min 3 (l.length + 1) - 1 = k ∧ k ≤ 2 := ⟨_, rfl, by omega⟩
    rw [hk] at h
    rcases first_sign c l with h1 | ⟨a', r', rfl, h1⟩
    · rw [splitK_no h1] at h; simp at h
    · cases k with
      | zero => simp [Lib.splitK] at h
      | succ k =>
        rw [splitK_hit1 h1] at h
        rcases first_sign c r' with h2 | ⟨b', r'', rfl, h2⟩
        · rw [splitK_no h2] at h; simp at h
        · cases k with
          | zero => simp [Lib.splitK] at h
          | succ k =>
            obtain rfl : k = 0 := by omega
            rw [splitK_hit1 h2] at h
            simp only [Lib.splitK, List.cons.injEq, and_true] at h
            obtain ⟨rfl, rfl, rfl⟩ := h
            exact ⟨rfl, h1, h2⟩
  · rintro ⟨rfl, ha, hb⟩; exact split3_of ha hb
theorem split3_len (c : UInt8) (l : List UInt8) : (Lib.splitN l [c] 3).length ≤ 3 := by
  unfold Lib.splitN
  obtain ⟨k, hk, hk2⟩ : ∃ k, min 3 (l.length + 1) - 1 = k ∧ k ≤ 2 := ⟨_, rfl, by omega⟩
  rw [hk]
  rcases first_sign c l with h1 | ⟨a', r', rfl, h1⟩
  · rw [splitK_no h1]; simp
  · cases k with
    | zero => simp [Lib.splitK]
    | succ k =>
      rw [splitK_hit1 h1]
      rcases first_sign c r' with h2 | ⟨b', r'', rfl, h2⟩
      · rw [splitK_no h2]; simp
      · cases k with
        | zero => simp [Lib.splitK]
        | succ k =>
          obtain rfl : k = 0 := by omega
          rw [splitK_hit1 h2]; simp [Lib.splitK]
def nodeW : List UInt8 := [110, 111, 100, 101]
def tieW : List UInt8 := [116, 105, 101]
/-- A node, a tie of what stands behind its word. -/
def readNodL (l : List UInt8) : Option Nod := match Lib.splitN l [32] 3 with
  | [a, b, c] => if b = [] then none else match numL a 4 with
    | none => none
    | some n => if readRE c = 0 then some ⟨n, bs b, readRV c⟩ else none
  | _ => none
def readTieL (l : List UInt8) : Option Tie := match Lib.split l [32] with
  | [a, b, c] => if a = [] then none else match numL b 4, numL c 4 with
    | some x, some y => some ⟨bs a, x, y⟩
    | _, _ => none
  | _ => none
/-- A line more. -/
def lineT (g : Grf) (x : List UInt8) : Option Grf :=
  if Lib.hasSuffix x [10] = true then
    (if (Lib.cut (Lib.trimSuffix x [10]) [32]).1 = nodeW ∧ g.ties.length = 0 then (readNodL (Lib.cut (Lib.trimSuffix x [10]) [32]).2.1).map fun n => ⟨g.nodes ++ [n], g.ties⟩
     else if (Lib.cut (Lib.trimSuffix x [10]) [32]).1 = tieW then (readTieL (Lib.cut (Lib.trimSuffix x [10]) [32]).2.1).map fun t => ⟨g.nodes, g.ties ++ [t]⟩
     else none)
  else none
/-- Lines, one by one: the graph, or the number of the line that is wrong. -/
def runT (g : Grf) (n : Nat) : List (List UInt8) → Except Nat Grf
  | [] => .ok g
  | x :: xs => match lineT g x with
    | none => .error n
    | some g' => runT g' (n + 1) xs
def readTE (l : List UInt8) : Int := match runT ⟨[], []⟩ 0 (linesL l) with | .error _ => 2 | .ok g => grfE g
def readTN (l : List UInt8) : Nat := match runT ⟨[], []⟩ 0 (linesL l) with | .error n => n | .ok _ => 0
def readTV (l : List UInt8) : Grf := match runT ⟨[], []⟩ 0 (linesL l) with | .error _ => ⟨[], []⟩ | .ok g => if grfE g = 0 then g else ⟨[], []⟩
theorem nod_read {l : List UInt8} {n : Nod} (h : readNodL l = some n) : nodT n = nodeW ++ 32 :: l ++ [10] := by
  unfold readNodL at h
  split at h
  · rename_i a b c e
    obtain ⟨rfl, _, _⟩ := split3_iff.1 e
    split at h
    · cases h
    · split at h
      · cases h
      · rename_i m hm
        split at h
        · rename_i hr
          obtain rfl := Option.some.inj h
          obtain ⟨e1, _⟩ := numL_iff.1 hm
          have e2 := (rec_read hr).2
          unfold nodT
          show [110, 111, 100, 101, 32] ++ Lib.itoa (m : Int) ++ [32] ++ (bs b).data.toList ++ [32] ++ recT (readRV c) ++ [10] = _
          rw [itoa_nat, bs_list, e2, ← e1]
          simp [nodeW]
        · cases h
  · cases h
theorem tie_read {l : List UInt8} {t : Tie} (h : readTieL l = some t) : tieT2 t = tieW ++ 32 :: l ++ [10] := by
  unfold readTieL at h
  split at h
  · rename_i a b c e
    have hw := split_whole 32 l
    rw [e, join_two, join_two, join_one] at hw
    subst hw
    split at h
    · cases h
    · split at h
      · rename_i x y hx hy
        obtain rfl := Option.some.inj h
        obtain ⟨e1, _⟩ := numL_iff.1 hx
        obtain ⟨e2, _⟩ := numL_iff.1 hy
        unfold tieT2
        show [116, 105, 101, 32] ++ (bs a).data.toList ++ [32] ++ Lib.itoa (x : Int) ++ [32] ++ Lib.itoa (y : Int) ++ [10] = _
        rw [itoa_nat, itoa_nat, bs_list, ← e1, ← e2]
        simp [tieW]
      · cases h
  · cases h
theorem readNodL_nil : readNodL [] = none := by
  have e : Lib.splitN [] [32] 3 = [[]] := rfl
  unfold readNodL; rw [e]
theorem readTieL_nil : readTieL [] = none := by
  have e : Lib.split [] [32] = [[]] := split_no .nil
  unfold readTieL; rw [e]
/-- A line that is read stands in the text as it was. -/
theorem line_text {g g' : Grf} {x : List UInt8} (h : lineT g x = some g') : grfT g' = grfT g ++ x := by
  unfold lineT at h
  rcases suffix_cases x with hs | ⟨a, rfl⟩
  · rw [hs] at h; simp at h
  obtain ⟨s1, s2⟩ := suffix_line a
  rw [if_pos s1, s2] at h
  rcases cut_cases 32 a with ⟨hc, _⟩ | ⟨u, r, rfl, _, hc⟩
  · rw [hc] at h
    simp only [readNodL_nil, readTieL_nil] at h
    split at h
    · cases h
    · split at h <;> cases h
  · rw [hc] at h
    split at h
    · rename_i hw
      obtain ⟨n, hn, rfl⟩ := Option.map_eq_some_iff.1 h
      have ht : g.ties = [] := List.length_eq_zero_iff.1 hw.2
      have hu : u = nodeW := hw.1
      have e := nod_read hn
      unfold grfT
      show (g.nodes ++ [n]).flatMap nodT ++ g.ties.flatMap tieT2 = _
      rw [ht, List.flatMap_append, hu]
      simp only [List.flatMap_cons, List.flatMap_nil, List.append_nil, e, List.append_assoc, List.cons_append]
    · split at h
      · rename_i hw
        obtain ⟨t, ht, rfl⟩ := Option.map_eq_some_iff.1 h
        have hu : u = tieW := hw
        have e := tie_read ht
        unfold grfT
        show g.nodes.flatMap nodT ++ (g.ties ++ [t]).flatMap tieT2 = _
        rw [List.flatMap_append, hu]
        simp only [List.flatMap_cons, List.flatMap_nil, List.append_nil, e, List.append_assoc, List.cons_append]
      · cases h
theorem run_text : ∀ {xs : List (List UInt8)} {g g' : Grf} {n : Nat}, runT g n xs = .ok g' → grfT g' = grfT g ++ xs.flatten
  | [], g, g', n, h => by
    injection h with h
    subst h; simp
  | x :: xs, g, g', n, h => by
    unfold runT at h
    cases hl : lineT g x with
    | none => rw [hl] at h; cases h
    | some g1 =>
      rw [hl] at h
      rw [run_text h, line_text hl, List.flatten_cons, List.append_assoc]
/-- What is read is right, and written as it was. -/
theorem grf_read {l : List UInt8} (h : readTE l = 0) : grfE (readTV l) = 0 ∧ grfT (readTV l) = l := by
  unfold readTE at h
  unfold readTV
  cases hr : runT ⟨[], []⟩ 0 (linesL l) with
  | error n => rw [hr] at h; cases h
  | ok g =>
    rw [hr] at h
    have h : grfE g = 0 := h
    show grfE (if grfE g = 0 then g else ⟨[], []⟩) = 0 ∧ grfT (if grfE g = 0 then g else ⟨[], []⟩) = l
    rw [if_pos h]
    refine ⟨h, ?_⟩
    rw [run_text hr, lines_whole _ l (Nat.le_refl _)]
    rfl
theorem id_num {n : Int} (h : idB n = true) : ∃ u : Nat, n = u ∧ numL (Lib.itoa n) 4 = some u := by
  unfold idB at h
  simp at h
  refine ⟨n.toNat, by omega, ?_⟩
  obtain ⟨u, hu⟩ : ∃ u : Nat, n = u := ⟨n.toNat, by omega⟩
  subst hu
  rw [itoa_nat]
  refine numL_iff.2 ⟨by simp, ?_⟩
  rw [Lib.decDigits_length]
  by_cases h0 : u < 10
  · rw [Lib.nDigits_small h0]; omega
  · rcases Nat.lt_or_ge u (10 ^ 2) with a | a
    · rw [Lib.nDigits_unique 1 u (by omega) a]; omega
    · rcases Nat.lt_or_ge u (10 ^ 3) with a2 | a2
      · rw [Lib.nDigits_unique 2 u a a2]; omega
      · rw [Lib.nDigits_unique 3 u a2 (by omega)]; omega
theorem name_ne {s : ByteArray} (h : nameE s = 0) : s.data.toList ≠ [] := fun e => by
  unfold nameE at h
  split at h
  · cases h
  · rename_i hh
    exact hh ((empty_iff s).2 (by rw [← bs_of s, e]; rfl))
theorem read_nod {n : Nod} (h : nodE n = 0) : readNodL (Lib.itoa n.id ++ 32 :: (n.kind.data.toList ++ 32 :: recT n.props)) = some n := by
  obtain ⟨h1, h2, h3⟩ := nod_parts2 h
  obtain ⟨u, hu, hn⟩ := id_num h1
  obtain ⟨r1, r2⟩ := read_rec h3
  unfold readNodL
  rw [split3_of (itoa_no (by decide) _) (name_no h2 (by decide))]
  show (if n.kind.data.toList = [] then none else match numL (Lib.itoa n.id) 4 with | none => none | some m => if readRE (recT n.props) = 0 then some (⟨m, bs n.kind.data.toList, readRV (recT n.props)⟩ : Nod) else none) = _
  rw [if_neg (name_ne h2), hn]
  show (if readRE (recT n.props) = 0 then some (⟨(u : Int), bs n.kind.data.toList, readRV (recT n.props)⟩ : Nod) else none) = _
  rw [if_pos r1, r2, bs_of, ← hu]
theorem read_tie {t : Tie} (h : tieE t = 0) : readTieL (t.bond.data.toList ++ 32 :: (Lib.itoa t.src ++ 32 :: Lib.itoa t.dst)) = some t := by
  obtain ⟨h1, h2, h3⟩ := tie_parts2 h
  obtain ⟨u, hu, hn⟩ := id_num h2
  obtain ⟨v, hv, hm⟩ := id_num h3
  unfold readTieL
  rw [split_sign (name_no h1 (by decide)), split_sign (itoa_no (by decide) _), split_no (itoa_no (by decide) _)]
  show (if t.bond.data.toList = [] then none else match numL (Lib.itoa t.src) 4, numL (Lib.itoa t.dst) 4 with | some x, some y => some (⟨bs t.bond.data.toList, x, y⟩ : Tie) | _, _ => none) = _
  rw [if_neg (name_ne h1), hn, hm, bs_of]
  show some (⟨t.bond, (u : Int), (v : Int)⟩ : Tie) = some t
  rw [← hu, ← hv]
theorem line_nodT {g : Grf} {n : Nod} (h : nodE n = 0) (ht : g.ties = []) : ∃ a, nodT n = a ++ [10] ∧ noB 10 a ∧ lineT g (a ++ [10]) = some ⟨g.nodes ++ [n], g.ties⟩ := by
  obtain ⟨h1, h2, h3⟩ := nod_parts2 h
  refine ⟨nodeW ++ 32 :: (Lib.itoa n.id ++ 32 :: (n.kind.data.toList ++ 32 :: recT n.props)), ?_, ?_, ?_⟩
  · unfold nodT nodeW; simp
  · refine .append (no_lit (by decide)) (.cons (by decide) (.append (flat_itoa _) (.cons (by decide) (.append (flat_name h2) (.cons (by decide) (flat_rec h3))))))
  · unfold lineT
    obtain ⟨s1, s2⟩ := suffix_line (nodeW ++ 32 :: (Lib.itoa n.id ++ 32 :: (n.kind.data.toList ++ 32 :: recT n.props)))
    rw [if_pos s1, s2, cut_sign (no_lit (by decide))]
    show (if nodeW = nodeW ∧ g.ties.length = 0 then (readNodL (Lib.itoa n.id ++ 32 :: (n.kind.data.toList ++ 32 :: recT n.props))).map _ else _) = _
    rw [if_pos ⟨rfl, by rw [ht]; rfl⟩, read_nod h]; rfl
theorem line_tieT {g : Grf} {t : Tie} (h : tieE t = 0) : ∃ a, tieT2 t = a ++ [10] ∧ noB 10 a ∧ lineT g (a ++ [10]) = some ⟨g.nodes, g.ties ++ [t]⟩ := by
  obtain ⟨h1, h2, h3⟩ := tie_parts2 h
  refine ⟨tieW ++ 32 :: (t.bond.data.toList ++ 32 :: (Lib.itoa t.src ++ 32 :: Lib.itoa t.dst)), ?_, ?_, ?_⟩
  · unfold tieT2 tieW; simp
  · refine .append (no_lit (by decide)) (.cons (by decide) (.append (flat_name h1) (.cons (by decide) (.append (flat_itoa _) (.cons (by decide) (flat_itoa _))))))
  · unfold lineT
    obtain ⟨s1, s2⟩ := suffix_line (tieW ++ 32 :: (t.bond.data.toList ++ 32 :: (Lib.itoa t.src ++ 32 :: Lib.itoa t.dst)))
    rw [if_pos s1, s2, cut_sign (no_lit (by decide))]
    show (if tieW = nodeW ∧ g.ties.length = 0 then _ else if tieW = tieW then (readTieL (t.bond.data.toList ++ 32 :: (Lib.itoa t.src ++ 32 :: Lib.itoa t.dst))).map _ else none) = _
    rw [if_neg (fun e => absurd e.1 (by decide)), if_pos rfl, read_tie h]; rfl
theorem run_ties : ∀ (ts : List Tie) (g : Grf) (n : Nat), (∀ t ∈ ts, tieE t = 0) → runT g n (linesL (ts.flatMap tieT2)) = .ok ⟨g.nodes, g.ties ++ ts⟩
  | [], g, n, _ => by simp [lines_nil, runT]
  | t :: ts, g, n, h => by
    obtain ⟨a, e, ha, hl⟩ := line_tieT (g := g) (h t (by simp))
    rw [List.flatMap_cons, e, List.append_assoc]
    show runT g n (linesL (a ++ 10 :: ts.flatMap tieT2)) = _
    rw [lines_sign ha]
    unfold runT
    rw [hl]
    show runT ⟨g.nodes, g.ties ++ [t]⟩ (n + 1) _ = _
    rw [run_ties ts _ _ fun x hx => h x (List.mem_cons_of_mem _ hx)]
    simp
theorem run_nods : ∀ (ns : List Nod) (ts : List Tie) (g : Grf) (n : Nat), g.ties = [] → (∀ x ∈ ns, nodE x = 0) → (∀ t ∈ ts, tieE t = 0) → runT g n (linesL (ns.flatMap nodT ++ ts.flatMap tieT2)) = .ok ⟨g.nodes ++ ns, g.ties ++ ts⟩
  | [], ts, g, n, _, _, h => by
    show runT g n (linesL (ts.flatMap tieT2)) = _
    rw [run_ties ts g n h]; simp
  | x :: ns, ts, g, n, hg, h1, h2 => by
    obtain ⟨a, e, ha, hl⟩ := line_nodT (g := g) (h1 x (by simp)) hg
    rw [List.flatMap_cons, e, List.append_assoc, List.append_assoc]
    show runT g n (linesL (a ++ 10 :: (ns.flatMap nodT ++ ts.flatMap tieT2))) = _
    rw [lines_sign ha]
    unfold runT
    rw [hl]
    show runT ⟨g.nodes ++ [x], g.ties⟩ (n + 1) _ = _
    rw [run_nods ns ts ⟨g.nodes ++ [x], g.ties⟩ (n + 1) hg (fun y hy => h1 y (List.mem_cons_of_mem _ hy)) h2]
    simp
/-- What is written is read as it was. -/
theorem read_grf {g : Grf} (h : grfE g = 0) : readTE (grfT g) = 0 ∧ readTV (grfT g) = g ∧ readTN (grfT g) = 0 := by
  have hr : runT ⟨[], []⟩ 0 (linesL (grfT g)) = .ok g := by
    unfold grfT
    rw [run_nods g.nodes g.ties ⟨[], []⟩ 0 rfl (fun n hn => ((grf_ok h).2.2.2 n hn).2) fun t ht => (grf_ties h).2 t ht]
    rfl
  unfold readTE readTV readTN
  rw [hr]
  refine ⟨h, ?_, rfl⟩
  show (if grfE g = 0 then g else ⟨[], []⟩) = g
  rw [if_pos h]
end Go.Proofs.YtmbeeaohidgfgaaGreatDoor
