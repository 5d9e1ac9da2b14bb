/- Parts: VtT, VtC, VtR. -/
import Derived.Test.YtmbeeaohidgfgaaGreatDoorMg06
import Derived.Test.YtmbeeaohidgfgaaGreatDoorMg10
import Derived.Lib.Join
import Derived.Lib.Split
import Derived.Lib.CutLaws
/- Plain: a record and a graph as text; how many lines that is. No condition. -/
namespace Go.Proofs.YtmbeeaohidgfgaaGreatDoor
open Go

/-- No end of a line. -/
def flatB (l : List UInt8) : Prop := ∀ c ∈ l, c ≠ 10
theorem flatB.append {a b : List UInt8} (h : flatB a) (k : flatB b) : flatB (a ++ b) := fun c hc => by
  rcases List.mem_append.1 hc with h1 | h1
  · exact h c h1
  · exact k c h1
theorem flatB.cons {c : UInt8} {l : List UInt8} (hc : c ≠ 10) (h : flatB l) : flatB (c :: l) := fun x hx => by
  rcases List.mem_cons.1 hx with rfl | hx
  · exact hc
  · exact h x hx
theorem flatB.nil : flatB [] := fun _ h => by cases h
theorem flatB.count {l : List UInt8} (h : flatB l) : l.count 10 = 0 := List.count_eq_zero.2 fun hm => h 10 hm rfl
theorem flat_digits (u : Nat) : flatB (Lib.decDigits u) := by
  induction u using Nat.strongRecOn with
  | ind u ih =>
    rw [Lib.decDigits]
    by_cases h : u < 10
    · rw [dif_pos h]; exact .cons (ofNat_ne h (.inl (by decide))) .nil
    · rw [dif_neg h]; exact (ih (u / 10) (by omega)).append (.cons (ofNat_ne (by omega) (.inl (by decide))) .nil)
theorem flat_itoa (n : Int) : flatB (Lib.itoa n) := by
  rcases itoa_cases n with ⟨u, _, e⟩ | ⟨u, _, _, e⟩
  · rw [e]; exact flat_digits u
  · rw [e]; exact .cons (by decide) (flat_digits u)
theorem flat_name {s : ByteArray} (h : nameE s = 0) : flatB s.data.toList := fun c hc e => by
  unfold nameE at h
  split at h
  · cases h
  · split at h
    · cases h
    · split at h
      · cases h
      · rename_i hn
        exact hn (List.any_eq_true.2 ⟨c, hc, by subst e; decide⟩)
theorem flat_str {u : List UInt8} (h : u.any strC = false) : flatB u := fun c hc e => by
  have := str_any_le h hc
  subst e
  exact absurd this (by decide)
theorem flat_dbl : ∀ {u : List UInt8}, flatB u → flatB (dbl u)
  | [], _ => .nil
  | c :: l, h => by
    have hl := flat_dbl (u := l) fun x hx => h x (by simp [hx])
    rw [dbl_cons]
    split
    · exact .cons (by decide) (.cons (by decide) hl)
    · exact .cons (h c (by simp)) hl
theorem flat_show {v : Val} (h : valE v = 0) : flatB (showL v) := by
  unfold showL
  rcases val_parts h with ⟨h1, _⟩ | ⟨h1, _⟩ | ⟨h1, _, _, h4⟩
  · rw [if_pos h1]; exact flat_itoa _
  · rw [if_neg (by omega), if_pos h1]
    split
    · exact fun c hc e => by subst e; exact absurd hc (by decide)
    · exact fun c hc e => by subst e; exact absurd hc (by decide)
  · rw [if_neg (by omega), if_neg (by omega)]
    exact .cons (by decide) ((flat_dbl (flat_str h4)).append (.cons (by decide) .nil))
/-- A property, a record as text. -/
def prpT (p : Prp) : List UInt8 := p.name.data.toList ++ 61 :: showL p.v
def recT (r : List Prp) : List UInt8 := if r.length = 0 then [45] else Lib.join (r.map prpT) [44]
theorem prp_parts {p : Prp} (h : prpE p = 0) : nameE p.name = 0 ∧ valE p.v = 0 := by
  unfold prpE at h
  split at h
  · rename_i h1; exact ⟨h1, h⟩
  · rename_i h1; exact absurd h h1
theorem flat_prp {p : Prp} (h : prpE p = 0) : flatB (prpT p) := (flat_name (prp_parts h).1).append (.cons (by decide) (flat_show (prp_parts h).2))
theorem flat_join : ∀ (xs : List (List UInt8)) (sep : List UInt8), (∀ x ∈ xs, flatB x) → flatB sep → flatB (Lib.join xs sep)
  | [], sep, _, _ => by rw [Lib.join_nil]; exact .nil
  | x :: r, sep, h, hs => by
    rw [Lib.join_cons]
    refine (h x (by simp)).append fun c hc => ?_
    unfold Lib.joinTail at hc
    obtain ⟨l, hl, hcl⟩ := List.mem_flatten.1 hc
    obtain ⟨y, hy, rfl⟩ := List.mem_map.1 hl
    exact (hs.append (h y (by simp [hy]))) c hcl
theorem flat_rec {r : List Prp} (h : recE r = 0) : flatB (recT r) := by
  unfold recT
  split
  · exact .cons (by decide) .nil
  · refine flat_join _ _ (fun x hx => ?_) (.cons (by decide) .nil)
    obtain ⟨p, hp, rfl⟩ := List.mem_map.1 hx
    exact flat_prp ((rec_ok h).2.1 p hp)
/-- A node, a tie, a graph as text. -/
def nodT (n : Nod) : List UInt8 := [110, 111, 100, 101, 32] ++ Lib.itoa n.id ++ [32] ++ n.kind.data.toList ++ [32] ++ recT n.props ++ [10]
def tieT2 (t : Tie) : List UInt8 := [116, 105, 101, 32] ++ t.bond.data.toList ++ [32] ++ Lib.itoa t.src ++ [32] ++ Lib.itoa t.dst ++ [10]
def grfT (g : Grf) : List UInt8 := g.nodes.flatMap nodT ++ g.ties.flatMap tieT2
theorem nod_parts2 {n : Nod} (h : nodE n = 0) : idB n.id = true ∧ nameE n.kind = 0 ∧ recE n.props = 0 := by
  unfold nodE at h
  split at h
  · cases h
  · rename_i h1
    split at h
    · rename_i h2; exact ⟨by simpa using h1, h2, h⟩
    · rename_i h2; exact absurd h h2
theorem tie_parts2 {t : Tie} (h : tieE t = 0) : nameE t.bond = 0 ∧ idB t.src = true ∧ idB t.dst = true := by
  unfold tieE at h
  split at h
  · rename_i h1
    split at h
    · rename_i h2; exact ⟨h1, by simpa using h2⟩
    · cases h
  · rename_i h1; exact absurd h h1
theorem dbl_len2 (l : List UInt8) : (dbl l).length ≤ 2 * l.length := by
  induction l with
  | nil => exact Nat.le_refl _
  | cons c l ih => rw [dbl_cons]; split <;> simp <;> omega
theorem show_len {v : Val} (h : valE v = 0) : (showL v).length ≤ 42 := by
  unfold showL
  rcases val_parts h with ⟨h1, h2, h3, _⟩ | ⟨h1, _⟩ | ⟨h1, _, h3, _⟩
  · rw [if_pos h1]; have := (itoa_small h2 h3).2; omega
  · rw [if_neg (by omega), if_pos h1]
    split
    · show (4 : Nat) ≤ 42; omega
    · show (5 : Nat) ≤ 42; omega
  · rw [if_neg (by omega), if_neg (by omega)]
    have h4 := dbl_len2 v.s.data.toList
    have h5 : v.s.data.toList.length = v.s.size := by rw [Array.length_toList]; rfl
    simp only [List.length_cons, List.length_append, List.length_nil]
    omega
theorem name_len {s : ByteArray} (h : nameE s = 0) : s.data.toList.length ≤ 8 := by
  have h5 : s.data.toList.length = s.size := by rw [Array.length_toList]; rfl
  unfold nameE at h
  split at h
  · cases h
  · split at h
    · cases h
    · omega
theorem tail_len : ∀ (r : List (List UInt8)) (sep : List UInt8) (m : Nat), (∀ x ∈ r, x.length ≤ m) → (Lib.joinTail sep r).length ≤ r.length * (m + sep.length)
  | [], _, _, _ => by simp [Lib.joinTail]
  | y :: r, sep, m, h => by
    have hy := h y (by simp)
    have ih := tail_len r sep m fun z hz => h z (List.mem_cons_of_mem _ hz)
    unfold Lib.joinTail at *
    rw [List.map_cons, List.flatten_cons, List.length_append, List.length_append, List.length_cons, Nat.succ_mul]
    omega
theorem join_len : ∀ (xs : List (List UInt8)) (sep : List UInt8) (m : Nat), (∀ x ∈ xs, x.length ≤ m) → (Lib.join xs sep).length ≤ xs.length * (m + sep.length)
  | [], sep, m, _ => by rw [Lib.join_nil]; simp
  | x :: r, sep, m, h => by
    rw [Lib.join_cons, List.length_append]
    have h1 := h x (by simp)
    have h2 := tail_len r sep m fun y hy => h y (List.mem_cons_of_mem _ hy)
    rw [List.length_cons, Nat.succ_mul]
    omega
theorem prp_len {p : Prp} (h : prpE p = 0) : (prpT p).length ≤ 51 := by
  have h1 := name_len (prp_parts h).1
  have h2 := show_len (prp_parts h).2
  unfold prpT
  rw [List.length_append, List.length_cons]; omega
theorem rec_len {r : List Prp} (h : recE r = 0) : (recT r).length ≤ 417 := by
  unfold recT
  split
  · show (1 : Nat) ≤ 417; omega
  · have h1 := join_len (r.map prpT) [44] 51 fun x hx => by
      obtain ⟨p, hp, rfl⟩ := List.mem_map.1 hx
      exact prp_len ((rec_ok h).2.1 p hp)
    have h2 := (rec_ok h).1
    rw [List.length_map] at h1
    have h3 : r.length * (51 + ([44] : List UInt8).length) ≤ 8 * 52 := Nat.mul_le_mul h2 (Nat.le_refl _)
    omega
theorem itoa_id {n : Int} (h : idB n = true) : (Lib.itoa n).length ≤ 10 := by
  unfold idB at h
  simp at h
  exact (itoa_small (by omega) (by omega)).2
theorem nod_len {n : Nod} (h : nodE n = 0) : (nodT n).length ≤ 450 := by
  obtain ⟨h1, h2, h3⟩ := nod_parts2 h
  have k1 := itoa_id h1
  have k2 := name_len h2
  have k3 := rec_len h3
  unfold nodT
  simp only [List.length_append, List.length_cons, List.length_nil]
  omega
theorem tie_len2 {t : Tie} (h : tieE t = 0) : (tieT2 t).length ≤ 450 := by
  obtain ⟨h1, h2, h3⟩ := tie_parts2 h
  have k1 := itoa_id h2
  have k2 := name_len h1
  have k3 := itoa_id h3
  unfold tieT2
  simp only [List.length_append, List.length_cons, List.length_nil]
  omega
theorem flatMap_len {D : Type} {f : D → List UInt8} {m : Nat} : ∀ {l : List D}, (∀ x ∈ l, (f x).length ≤ m) → (l.flatMap f).length ≤ l.length * m
  | [], _ => by simp
  | x :: l, h => by
    have h1 := h x (by simp)
    have h2 := flatMap_len (l := l) fun y hy => h y (List.mem_cons_of_mem _ hy)
    rw [List.flatMap_cons, List.length_append, List.length_cons, Nat.succ_mul]
    omega

/-- A sign is not in a text. -/
def noB (c : UInt8) (l : List UInt8) : Prop := ∀ x ∈ l, x ≠ c
theorem noB.nil {c : UInt8} : noB c [] := fun _ h => by cases h
theorem noB.cons {c x : UInt8} {l : List UInt8} (h : x ≠ c) (k : noB c l) : noB c (x :: l) := fun y hy => by
  rcases List.mem_cons.1 hy with rfl | hy
  · exact h
  · exact k y hy
theorem noB.append {c : UInt8} {a b : List UInt8} (h : noB c a) (k : noB c b) : noB c (a ++ b) := fun y hy => by
  rcases List.mem_append.1 hy with hy | hy
  · exact h y hy
  · exact k y hy
theorem no_lit {c : UInt8} {l : List UInt8} (h : l.all (fun x => decide (x ≠ c)) = true) : noB c l := fun x hx => of_decide_eq_true (List.all_eq_true.1 h x hx)
/-- A text has a first such sign, or none. -/
theorem first_sign (c : UInt8) : ∀ l : List UInt8, noB c l ∨ ∃ a r, l = a ++ c :: r ∧ noB c a
  | [] => .inl .nil
  | x :: l => by
    by_cases hx : x = c
    · exact .inr ⟨[], l, by rw [hx]; rfl, .nil⟩
    · rcases first_sign c l with h | ⟨a, r, rfl, h⟩
      · exact .inl (.cons hx h)
      · exact .inr ⟨x :: a, r, rfl, .cons hx h⟩
theorem occ_ne {s : List UInt8} {c : UInt8} {i : Nat} (h : s[i]? ≠ some c) : Lib.occAt s [c] i = false := by
  cases hq : Lib.occAt s [c] i with
  | false => rfl
  | true => exact absurd (Lib.occAt_head rfl hq) h
theorem index_sign {c : UInt8} {a r : List UInt8} (h : noB c a) : Lib.index (a ++ c :: r) [c] = a.length :=
  Lib.index_hit (fun j hj => occ_ne (by
    rw [List.getElem?_append_left hj]
    intro e
    exact h _ (List.mem_of_getElem? e) rfl)) (by simp) (by simp [Lib.occAt])
theorem index_no {c : UInt8} {a : List UInt8} (h : noB c a) : Lib.index a [c] = -1 :=
  Lib.index_none fun j hj => occ_ne fun e => h _ (List.mem_of_getElem? e) rfl
/-- Cut at the first. -/
theorem cut_sign {c : UInt8} {a r : List UInt8} (h : noB c a) : Lib.cut (a ++ c :: r) [c] = (a, r, true) := by
  unfold Lib.cut
  rw [index_sign h, if_pos (by omega)]
  simp
theorem cut_no {c : UInt8} {a : List UInt8} (h : noB c a) : Lib.cut a [c] = (a, [], false) := by
  unfold Lib.cut
  rw [index_no h, if_neg (by omega)]
theorem cut_cases (c : UInt8) (l : List UInt8) : (Lib.cut l [c] = (l, [], false) ∧ noB c l) ∨ ∃ a r, l = a ++ c :: r ∧ noB c a ∧ Lib.cut l [c] = (a, r, true) := by
  rcases first_sign c l with h | ⟨a, r, rfl, h⟩
  · exact .inl ⟨cut_no h, h⟩
  · exact .inr ⟨a, r, rfl, h, cut_sign h⟩
/-- Cut at each. -/
theorem split_no {c : UInt8} {a : List UInt8} (h : noB c a) : Lib.split a [c] = [a] := by
  unfold Lib.split
  rw [Lib.count_miss (index_no h)]; rfl
theorem split_sign {c : UInt8} {a r : List UInt8} (h : noB c a) : Lib.split (a ++ c :: r) [c] = a :: Lib.split r [c] := by
  have hi := index_sign (r := r) h
  unfold Lib.split
  rw [Lib.count_hit (by simp) hi, Nat.add_comm]
  show (if Lib.index (a ++ c :: r) [c] == -1 then [a ++ c :: r] else (a ++ c :: r).take ((Lib.index (a ++ c :: r) [c]).toNat + 0) :: Lib.splitK [c] 0 (Lib.count ((a ++ c :: r).drop (a.length + 1)) [c]) ((a ++ c :: r).drop ((Lib.index (a ++ c :: r) [c]).toNat + 1))) = _
  rw [hi, if_neg (by simp), drop_behind]
  simp
/-- What is cut is whole again when it is put together. -/
theorem join_split (c : UInt8) : ∀ (n : Nat) (l : List UInt8), l.length ≤ n → Lib.join (Lib.split l [c]) [c] = l ∧ ∀ x ∈ Lib.split l [c], noB c x
  | n, l, hn => by
    rcases first_sign c l with h | ⟨a, r, rfl, h⟩
    · rw [split_no h]
      exact ⟨by simp [Lib.join], fun x hx => by rcases List.mem_singleton.1 hx with rfl; exact h⟩
    · cases n with
      | zero => simp at hn
      | succ n =>
        obtain ⟨i1, i2⟩ := join_split c n r (by simp at hn; omega)
        rw [split_sign h]
        refine ⟨?_, fun x hx => ?_⟩
        · cases hs : Lib.split r [c] with
          | nil => rw [hs] at i1; rcases first_sign c r with k | ⟨a', r', rfl, k⟩
                   · rw [split_no k] at hs; cases hs
                   · rw [split_sign k] at hs; cases hs
          | cons y m =>
            rw [hs] at i1
            show [c].intercalate (a :: y :: m) = _
            have e : [c].intercalate (a :: y :: m) = a ++ [c] ++ [c].intercalate (y :: m) := by simp [List.intercalate, List.intersperse]
            rw [e]
            have i1 : [c].intercalate (y :: m) = r := i1
            rw [i1]; simp
        · rcases List.mem_cons.1 hx with rfl | hx
          · exact h
          · exact i2 x hx
theorem join_two (c : UInt8) (a y : List UInt8) (m : List (List UInt8)) : Lib.join (a :: y :: m) [c] = a ++ c :: Lib.join (y :: m) [c] := by
  show [c].intercalate (a :: y :: m) = _
  have e : [c].intercalate (a :: y :: m) = a ++ [c] ++ [c].intercalate (y :: m) := by simp [List.intercalate, List.intersperse]
  rw [e]; simp [Lib.join]
theorem join_one (c : UInt8) (a : List UInt8) : Lib.join [a] [c] = a := by simp [Lib.join]
theorem split_whole (c : UInt8) (l : List UInt8) : Lib.join (Lib.split l [c]) [c] = l := (join_split c l.length l (Nat.le_refl _)).1
/-- Cut at each that is in no quotes. -/
def cutF (c : UInt8) : Bool → List UInt8 → List UInt8 → List (List UInt8)
  | _, cur, [] => [cur]
  | q, cur, x :: l => if x = 39 then cutF c (!q) (cur ++ [x]) l else if x = c ∧ q = false then cur :: cutF c false [] l else cutF c q (cur ++ [x]) l
theorem cutF_cons (c : UInt8) (q : Bool) (cur : List UInt8) (x : UInt8) (l : List UInt8) : cutF c q cur (x :: l) = if x = 39 then cutF c (!q) (cur ++ [x]) l else if x = c ∧ q = false then cur :: cutF c false [] l else cutF c q (cur ++ [x]) l := rfl
def cutL (c : UInt8) (l : List UInt8) : List (List UInt8) := cutF c false [] l
theorem cutF_ne (c : UInt8) : ∀ (l : List UInt8) (q : Bool) (cur : List UInt8), cutF c q cur l ≠ []
  | [], _, _ => by simp [cutF]
  | x :: l, q, cur => by
    rw [cutF_cons]
    split
    · exact cutF_ne c l _ _
    · split
      · simp
      · exact cutF_ne c l _ _
theorem cutF_whole (c : UInt8) : ∀ (l : List UInt8) (q : Bool) (cur : List UInt8), Lib.join (cutF c q cur l) [c] = cur ++ l
  | [], q, cur => by show Lib.join [cur] [c] = _; rw [join_one]; simp
  | x :: l, q, cur => by
    rw [cutF_cons]
    split
    · rw [cutF_whole c l]; simp
    · split
      · rename_i h
        cases hs : cutF c false [] l with
        | nil => exact absurd hs (cutF_ne c l _ _)
        | cons y m =>
          rw [join_two, ← hs, cutF_whole c l, h.1]; simp
      · rw [cutF_whole c l]; simp
/-- How a text's quotes stand behind it; none: the sign is in it, in no quotes. -/
def scanQ (c : UInt8) : Bool → List UInt8 → Option Bool
  | q, [] => some q
  | q, x :: l => if x = 39 then scanQ c (!q) l else if x = c ∧ q = false then none else scanQ c q l
theorem scanQ_cons (c : UInt8) (q : Bool) (x : UInt8) (l : List UInt8) : scanQ c q (x :: l) = if x = 39 then scanQ c (!q) l else if x = c ∧ q = false then none else scanQ c q l := rfl
theorem scanQ_append (c : UInt8) : ∀ (a b : List UInt8) (q : Bool), scanQ c q (a ++ b) = (scanQ c q a).bind fun q' => scanQ c q' b
  | [], b, q => rfl
  | x :: a, b, q => by
    show scanQ c q (x :: (a ++ b)) = _
    rw [scanQ_cons, scanQ_cons]
    split
    · exact scanQ_append c a b _
    · split
      · rfl
      · exact scanQ_append c a b _
theorem scanQ_plain {c : UInt8} : ∀ {l : List UInt8}, noB c l → noB 39 l → scanQ c false l = some false
  | [], _, _ => rfl
  | x :: l, h, k => by
    rw [scanQ_cons, if_neg (k x (by simp)), if_neg (fun e => h x (by simp) e.1)]
    exact scanQ_plain (fun y hy => h y (List.mem_cons_of_mem _ hy)) (fun y hy => k y (List.mem_cons_of_mem _ hy))
theorem scanQ_dbl (c : UInt8) : ∀ (l : List UInt8), scanQ c true (dbl l) = some true
  | [] => rfl
  | x :: l => by
    rw [dbl_cons]
    split
    · rw [scanQ_cons, if_pos rfl, scanQ_cons, if_pos rfl]; exact scanQ_dbl c l
    · rename_i h
      rw [scanQ_cons, if_neg h, if_neg (fun e => by cases e.2)]; exact scanQ_dbl c l
theorem cutF_scan (c : UInt8) : ∀ (a r : List UInt8) (q q' : Bool) (cur : List UInt8), scanQ c q a = some q' → cutF c q cur (a ++ r) = cutF c q' (cur ++ a) r
  | [], r, q, q', cur, h => by obtain rfl := Option.some.inj h; simp
  | x :: a, r, q, q', cur, h => by
    rw [scanQ_cons] at h
    show cutF c q cur (x :: (a ++ r)) = _
    rw [cutF_cons]
    split at h
    · rename_i hx
      rw [if_pos hx, cutF_scan c a r _ _ _ h]; simp
    · rename_i hx
      split at h
      · cases h
      · rename_i hc
        rw [if_neg hx, if_neg hc, cutF_scan c a r _ _ _ h]; simp
theorem cutF_join {c : UInt8} (hc : c ≠ 39) : ∀ (xs : List (List UInt8)), xs ≠ [] → (∀ x ∈ xs, scanQ c false x = some false) → cutL c (Lib.join xs [c]) = xs
  | [], h, _ => absurd rfl h
  | [a], _, h => by
    rw [join_one]
    have := cutF_scan c a [] false false [] (h a (by simp))
    rw [List.append_nil] at this
    unfold cutL
    rw [this]; rfl
  | a :: y :: m, _, h => by
    rw [join_two]
    unfold cutL
    rw [cutF_scan c a _ false false [] (h a (by simp)), cutF_cons, if_neg hc, if_pos ⟨rfl, rfl⟩]
    have := cutF_join hc (y :: m) (by simp) fun x hx => h x (List.mem_cons_of_mem _ hx)
    unfold cutL at this
    rw [this]; rfl

/-- A piece as a property. -/
def pieceP (x : List UInt8) : Option Prp := if (Lib.cut x [61]).2.2 = true ∧ readE (Lib.cut x [61]).2.1 = 0 then some ⟨bs (Lib.cut x [61]).1, readV (Lib.cut x [61]).2.1⟩ else none
def propsP : List (List UInt8) → Option (List Prp)
  | [] => some []
  | x :: xs => match pieceP x with
    | none => none
    | some p => match propsP xs with
      | none => none
      | some r => some (p :: r)
theorem propsP_cons (x : List UInt8) (xs : List (List UInt8)) : propsP (x :: xs) = match pieceP x with | none => none | some p => match propsP xs with | none => none | some r => some (p :: r) := rfl
theorem propsP_append : ∀ (a b : List (List UInt8)), propsP (a ++ b) = match propsP a with | none => none | some u => match propsP b with | none => none | some v => some (u ++ v)
  | [], b => by
    show propsP b = match propsP b with | none => none | some v => some ([] ++ v)
    cases propsP b <;> rfl
  | x :: a, b => by
    show propsP (x :: (a ++ b)) = _
    rw [propsP_cons, propsP_cons, propsP_append a b]
    cases pieceP x with
    | none => rfl
    | some p =>
      cases propsP a with
      | none => rfl
      | some u =>
        cases propsP b with
        | none => rfl
        | some v => rfl
theorem propsP_take {xs : List (List UInt8)} {k : Nat} {x : List UInt8} {u : List Prp} (h : propsP (xs.take k) = some u) (hx : xs[k]? = some x) : (pieceP x = none → propsP xs = none) ∧ ∀ p, pieceP x = some p → propsP (xs.take (k + 1)) = some (u ++ [p]) := by
  have e : xs.take (k + 1) = xs.take k ++ [x] := by rw [List.take_add_one, hx]; rfl
  constructor
  · intro hp
    have e2 : xs = xs.take (k + 1) ++ xs.drop (k + 1) := (List.take_append_drop _ _).symm
    rw [e2, propsP_append, e, propsP_append, h]
    simp only [propsP_cons, hp]
  · intro p hp
    rw [e, propsP_append, h]
    simp only [propsP_cons, hp]
    rfl
theorem propsP_len : ∀ {xs : List (List UInt8)} {u : List Prp}, propsP xs = some u → u.length = xs.length
  | [], u, h => by obtain rfl := Option.some.inj h; rfl
  | x :: xs, u, h => by
    rw [propsP_cons] at h
    cases hp : pieceP x with
    | none => rw [hp] at h; cases h
    | some p =>
      rw [hp] at h
      cases hr : propsP xs with
      | none => rw [hr] at h; cases h
      | some r =>
        rw [hr] at h
        obtain rfl := Option.some.inj h
        simp [propsP_len hr]
/-- A text as a record: the fault; the record. -/
def readRE (l : List UInt8) : Int := if l = [45] then 0 else match propsP (cutL 44 l) with | none => 2 | some r => recE r
def readRV (l : List UInt8) : List Prp := if l = [45] then [] else match propsP (cutL 44 l) with | none => [] | some r => if recE r = 0 then r else []
theorem name_no {s : ByteArray} (h : nameE s = 0) {c : UInt8} (hc : c.toNat < 97 ∨ 122 < c.toNat) : noB c s.data.toList := fun x hx e => by
  unfold nameE at h
  split at h
  · cases h
  · split at h
    · cases h
    · split at h
      · cases h
      · rename_i hn
        refine hn (List.any_eq_true.2 ⟨x, hx, ?_⟩)
        subst e
        unfold nameC
        rw [Bool.or_eq_true, decide_eq_true_eq, decide_eq_true_eq]
        rcases hc with hc | hc
        · left; omega
        · right; omega
theorem digits_no {c : UInt8} (hc : c.toNat < 48 ∨ 57 < c.toNat) (u : Nat) : noB c (Lib.decDigits u) := by
  induction u using Nat.strongRecOn with
  | ind u ih =>
    rw [Lib.decDigits]
    by_cases h : u < 10
    · rw [dif_pos h]; exact .cons (ofNat_ne h hc) .nil
    · rw [dif_neg h]; exact (ih (u / 10) (by omega)).append (.cons (ofNat_ne (by omega) hc) .nil)
theorem itoa_no {c : UInt8} (hc : c.toNat < 45 ∨ 57 < c.toNat) (n : Int) : noB c (Lib.itoa n) := by
  rcases itoa_cases n with ⟨u, _, e⟩ | ⟨u, _, _, e⟩
  · rw [e]; exact digits_no (by omega) u
  · rw [e]
    refine .cons (fun h => ?_) (digits_no (by omega) u)
    subst h
    have : (45 : UInt8).toNat = 45 := rfl
    omega
theorem scan_show {c : UInt8} (hc : c.toNat < 39 ∨ 39 < c.toNat ∧ c.toNat < 45 ∨ 122 < c.toNat) {v : Val} (h : valE v = 0) : scanQ c false (showL v) = some false := by
  have h39 : (39 : UInt8).toNat = 39 := rfl
  unfold showL
  rcases val_parts h with ⟨h1, _⟩ | ⟨h1, _⟩ | ⟨h1, _⟩
  · rw [if_pos h1]
    exact scanQ_plain (itoa_no (by omega) _) (itoa_no (by omega) _)
  · rw [if_neg (by omega), if_pos h1]
    have hl : ∀ l : List UInt8, l.all (fun x => decide (97 ≤ x.toNat ∧ x.toNat ≤ 122)) = true → scanQ c false l = some false := fun l hl => by
      refine scanQ_plain (fun x hx e => ?_) (fun x hx e => ?_)
      · have := of_decide_eq_true (List.all_eq_true.1 hl x hx)
        subst e; omega
      · have := of_decide_eq_true (List.all_eq_true.1 hl x hx)
        subst e; omega
    split
    · exact hl _ (by decide)
    · exact hl _ (by decide)
  · rw [if_neg (by omega), if_neg (by omega)]
    rw [scanQ_cons, if_pos rfl, scanQ_append]
    show ((scanQ c true (dbl v.s.data.toList)).bind fun q' => scanQ c q' [39]) = _
    rw [scanQ_dbl]; rfl
theorem scan_prp {p : Prp} (h : prpE p = 0) : scanQ 44 false (prpT p) = some false := by
  unfold prpT
  rw [scanQ_append, scanQ_plain (name_no (prp_parts h).1 (by decide)) (name_no (prp_parts h).1 (by decide))]
  show scanQ 44 false (61 :: showL p.v) = _
  rw [scanQ_cons, if_neg (by decide), if_neg (by decide)]
  exact scan_show (.inr (.inl ⟨by decide, by decide⟩)) (prp_parts h).2
theorem piece_prp {p : Prp} (h : prpE p = 0) : pieceP (prpT p) = some p := by
  unfold pieceP prpT
  rw [cut_sign (name_no (prp_parts h).1 (by decide))]
  obtain ⟨h1, h2⟩ := read_show (prp_parts h).2
  show (if true = true ∧ readE (showL p.v) = 0 then some (⟨bs p.name.data.toList, readV (showL p.v)⟩ : Prp) else none) = _
  rw [if_pos ⟨rfl, h1⟩, h2, bs_of]
theorem props_rec : ∀ {r : List Prp}, (∀ p ∈ r, prpE p = 0) → propsP (r.map prpT) = some r
  | [], _ => rfl
  | p :: r, h => by
    rw [List.map_cons, propsP_cons, piece_prp (h p (by simp)), props_rec fun q hq => h q (List.mem_cons_of_mem _ hq)]
theorem prpT_ne (p : Prp) (l : List UInt8) : prpT p ++ l ≠ [45] := fun h => by
  have := congrArg (61 ∈ ·) h
  unfold prpT at this
  simp at this
theorem recT_ne {r : List Prp} (h : r ≠ []) : recT r ≠ [45] := by
  unfold recT
  cases r with
  | nil => exact absurd rfl h
  | cons p r =>
    rw [if_neg (by simp), List.map_cons]
    cases r with
    | nil => rw [List.map_nil, join_one]; have := prpT_ne p []; rwa [List.append_nil] at this
    | cons q r => rw [List.map_cons, join_two]; exact prpT_ne p _
/-- What is written is read as it was. -/
theorem read_rec {r : List Prp} (h : recE r = 0) : readRE (recT r) = 0 ∧ readRV (recT r) = r := by
  cases r with
  | nil => exact ⟨rfl, rfl⟩
  | cons p r =>
    have hp := (rec_ok h).2.1
    have hc : propsP (cutL 44 (recT (p :: r))) = some (p :: r) := by
      unfold recT
      rw [if_neg (by simp), cutF_join (by decide) _ (by simp), props_rec hp]
      intro x hx
      obtain ⟨q, hq, rfl⟩ := List.mem_map.1 hx
      exact scan_prp (hp q hq)
    have hne := recT_ne (r := p :: r) (by simp)
    unfold readRE readRV
    rw [if_neg hne, if_neg hne, hc]
    refine ⟨h, ?_⟩
    show (if recE (p :: r) = 0 then p :: r else []) = _
    rw [if_pos h]
theorem piece_text {x : List UInt8} {p : Prp} (h : pieceP x = some p) : prpT p = x := by
  unfold pieceP at h
  rcases cut_cases 61 x with ⟨hc, _⟩ | ⟨a, r, rfl, _, hc⟩
  · rw [hc] at h; simp at h
  · rw [hc] at h
    split at h
    · rename_i hh
      obtain rfl := Option.some.inj h
      have := (show_read hh.2).2
      unfold prpT
      show (bs a).data.toList ++ 61 :: showL (readV r) = _
      rw [bs_list, this]
    · cases h
theorem props_text : ∀ {xs : List (List UInt8)} {r : List Prp}, propsP xs = some r → r.map prpT = xs
  | [], r, h => by obtain rfl := Option.some.inj h; rfl
  | x :: xs, r, h => by
    rw [propsP_cons] at h
    cases hp : pieceP x with
    | none => rw [hp] at h; cases h
    | some p =>
      rw [hp] at h
      cases hr : propsP xs with
      | none => rw [hr] at h; cases h
      | some u =>
        rw [hr] at h
        obtain rfl := Option.some.inj h
        rw [List.map_cons, piece_text hp, props_text hr]
/-- What is read is written as it was. -/
theorem rec_read {l : List UInt8} (h : readRE l = 0) : recE (readRV l) = 0 ∧ recT (readRV l) = l := by
  by_cases h1 : l = [45]
  · subst h1; exact ⟨rfl, rfl⟩
  unfold readRE at h
  unfold readRV
  rw [if_neg h1] at h ⊢
  cases hp : propsP (cutL 44 l) with
  | none => rw [hp] at h; cases h
  | some r =>
    rw [hp] at h
    have h : recE r = 0 := h
    show recE (if recE r = 0 then r else []) = 0 ∧ recT (if recE r = 0 then r else []) = l
    rw [if_pos h]
    refine ⟨h, ?_⟩
    have hl := propsP_len hp
    have hne := cutF_ne 44 l false []
    have : 0 < (cutL 44 l).length := by
      unfold cutL
      cases hq : cutF 44 false [] l with
      | nil => exact absurd hq hne
      | cons _ _ => simp
    unfold recT
    rw [if_neg (by omega), props_text hp]
    unfold cutL
    rw [cutF_whole]; rfl
end Go.Proofs.YtmbeeaohidgfgaaGreatDoor
