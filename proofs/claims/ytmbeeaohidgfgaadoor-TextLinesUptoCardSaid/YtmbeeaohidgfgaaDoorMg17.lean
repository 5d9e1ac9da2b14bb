/- Parts: VtT, VpP. -/
import Derived.Test.YtmbeeaohidgfgaaDoorMg08
import Derived.Test.YtmbeeaohidgfgaaDoorMg16
import Derived.Lib.Join
import Derived.Lib.AtoiTie
/- Plain: a record and a graph as text; how many lines that is. No condition. -/
namespace Go.Proofs.YtmbeeaohidgfgaaDoor
open Go

/-- No end of a line. -/
def flatB (l : List UInt8) : Prop := ∀ c ∈ l, c ≠ 10
theorem flatB.append {a b : List UInt8} (h : flatB a) (k : flatB b) : flatB (a ++ b) := fun c hc => by
  rcases List.mem_append.1 hc with h1 | h1
  · exact h c h1
  · exact k c h1
theorem flatB.cons {c : UInt8} {l : List UInt8} (hc : c ≠ 10) (h : flatB l) : flatB (c :: l) := fun x hx => by
  rcases List.mem_cons.1 hx with rfl | hx
  · exact hc
  · exact h x hx
theorem flatB.nil : flatB [] := fun _ h => by cases h
theorem flatB.count {l : List UInt8} (h : flatB l) : l.count 10 = 0 := List.count_eq_zero.2 fun hm => h 10 hm rfl
theorem flat_digits (u : Nat) : flatB (Lib.decDigits u) := by
  induction u using Nat.strongRecOn with
  | ind u ih =>
    rw [Lib.decDigits]
    by_cases h : u < 10
    · rw [dif_pos h]; exact .cons (ofNat_ne h (.inl (by decide))) .nil
    · rw [dif_neg h]; exact (ih (u / 10) (by omega)).append (.cons (ofNat_ne (by omega) (.inl (by decide))) .nil)
theorem flat_itoa (n : Int) : flatB (Lib.itoa n) := by
  rcases itoa_cases n with ⟨u, _, e⟩ | ⟨u, _, _, e⟩
  · rw [e]; exact flat_digits u
  · rw [e]; exact .cons (by decide) (flat_digits u)
theorem flat_name {s : ByteArray} (h : nameE s = 0) : flatB s.data.toList := fun c hc e => by
  unfold nameE at h
  split at h
  · cases h
  · split at h
    · cases h
    · split at h
      · cases h
      · rename_i hn
        exact hn (List.any_eq_true.2 ⟨c, hc, by subst e; decide⟩)
theorem flat_str {u : List UInt8} (h : u.any strC = false) : flatB u := fun c hc e => by
  have := str_any_le h hc
  subst e
  exact absurd this (by decide)
theorem flat_dbl : ∀ {u : List UInt8}, flatB u → flatB (dbl u)
  | [], _ => .nil
  | c :: l, h => by
    have hl := flat_dbl (u := l) fun x hx => h x (by simp [hx])
    rw [dbl_cons]
    split
    · exact .cons (by decide) (.cons (by decide) hl)
    · exact .cons (h c (by simp)) hl
theorem flat_show {v : Val} (h : valE v = 0) : flatB (showL v) := by
  unfold showL
  rcases val_parts h with ⟨h1, _⟩ | ⟨h1, _⟩ | ⟨h1, _, _, h4⟩
  · rw [if_pos h1]; exact flat_itoa _
  · rw [if_neg (by omega), if_pos h1]
    split
    · exact fun c hc e => by subst e; exact absurd hc (by decide)
    · exact fun c hc e => by subst e; exact absurd hc (by decide)
  · rw [if_neg (by omega), if_neg (by omega)]
    exact .cons (by decide) ((flat_dbl (flat_str h4)).append (.cons (by decide) .nil))
/-- A property, a record as text. -/
def prpT (p : Prp) : List UInt8 := p.name.data.toList ++ 61 :: showL p.v
def recT (r : List Prp) : List UInt8 := if r.length = 0 then [45] else Lib.join (r.map prpT) [44]
theorem prp_parts {p : Prp} (h : prpE p = 0) : nameE p.name = 0 ∧ valE p.v = 0 := by
  unfold prpE at h
  split at h
  · rename_i h1; exact ⟨h1, h⟩
  · rename_i h1; exact absurd h h1
theorem flat_prp {p : Prp} (h : prpE p = 0) : flatB (prpT p) := (flat_name (prp_parts h).1).append (.cons (by decide) (flat_show (prp_parts h).2))
theorem flat_join : ∀ (xs : List (List UInt8)) (sep : List UInt8), (∀ x ∈ xs, flatB x) → flatB sep → flatB (Lib.join xs sep)
  | [], sep, _, _ => by rw [Lib.join_nil]; exact .nil
  | x :: r, sep, h, hs => by
    rw [Lib.join_cons]
    refine (h x (by simp)).append fun c hc => ?_
    unfold Lib.joinTail at hc
    obtain ⟨l, hl, hcl⟩ := List.mem_flatten.1 hc
    obtain ⟨y, hy, rfl⟩ := List.mem_map.1 hl
    exact (hs.append (h y (by simp [hy]))) c hcl
theorem flat_rec {r : List Prp} (h : recE r = 0) : flatB (recT r) := by
  unfold recT
  split
  · exact .cons (by decide) .nil
  · refine flat_join _ _ (fun x hx => ?_) (.cons (by decide) .nil)
    obtain ⟨p, hp, rfl⟩ := List.mem_map.1 hx
    exact flat_prp ((rec_ok h).2.1 p hp)
/-- A node, a tie, a graph as text. -/
def nodT (n : Nod) : List UInt8 := [110, 111, 100, 101, 32] ++ Lib.itoa n.id ++ [32] ++ n.kind.data.toList ++ [32] ++ recT n.props ++ [10]
def tieT2 (t : Tie) : List UInt8 := [116, 105, 101, 32] ++ t.bond.data.toList ++ [32] ++ Lib.itoa t.src ++ [32] ++ Lib.itoa t.dst ++ [10]
def grfT (g : Grf) : List UInt8 := g.nodes.flatMap nodT ++ g.ties.flatMap tieT2
theorem nod_parts2 {n : Nod} (h : nodE n = 0) : idB n.id = true ∧ nameE n.kind = 0 ∧ recE n.props = 0 := by
  unfold nodE at h
  split at h
  · cases h
  · rename_i h1
    split at h
    · rename_i h2; exact ⟨by simpa using h1, h2, h⟩
    · rename_i h2; exact absurd h h2
theorem tie_parts2 {t : Tie} (h : tieE t = 0) : nameE t.bond = 0 ∧ idB t.src = true ∧ idB t.dst = true := by
  unfold tieE at h
  split at h
  · rename_i h1
    split at h
    · rename_i h2; exact ⟨h1, by simpa using h2⟩
    · cases h
  · rename_i h1; exact absurd h h1
theorem line_nod {n : Nod} (h : nodE n = 0) : (nodT n).count 10 = 1 := by
  obtain ⟨_, h2, h3⟩ := nod_parts2 h
  have hf : flatB ([110, 111, 100, 101, 32] ++ Lib.itoa n.id ++ [32] ++ n.kind.data.toList ++ [32] ++ recT n.props) := by
    refine ((((flatB.append ?_ (flat_itoa _)).append ?_).append (flat_name h2)).append ?_).append (flat_rec h3)
    · intro c hc e; subst e; exact absurd hc (by decide)
    · exact .cons (by decide) .nil
    · exact .cons (by decide) .nil
  show (([110, 111, 100, 101, 32] ++ Lib.itoa n.id ++ [32] ++ n.kind.data.toList ++ [32] ++ recT n.props) ++ [10]).count 10 = 1
  rw [List.count_append, hf.count]; rfl
theorem line_tie {t : Tie} (h : tieE t = 0) : (tieT2 t).count 10 = 1 := by
  obtain ⟨h1, _⟩ := tie_parts2 h
  have hf : flatB ([116, 105, 101, 32] ++ t.bond.data.toList ++ [32] ++ Lib.itoa t.src ++ [32] ++ Lib.itoa t.dst) := by
    refine ((((flatB.append ?_ (flat_name h1)).append ?_).append (flat_itoa _)).append ?_).append (flat_itoa _)
    · intro c hc e; subst e; exact absurd hc (by decide)
    · exact .cons (by decide) .nil
    · exact .cons (by decide) .nil
  show (([116, 105, 101, 32] ++ t.bond.data.toList ++ [32] ++ Lib.itoa t.src ++ [32] ++ Lib.itoa t.dst) ++ [10]).count 10 = 1
  rw [List.count_append, hf.count]; rfl
theorem lines_of {D : Type} {f : D → List UInt8} : ∀ {l : List D}, (∀ x ∈ l, (f x).count 10 = 1) → (l.flatMap f).count 10 = l.length
  | [], _ => rfl
  | x :: l, h => by
    rw [List.flatMap_cons, List.count_append, h x (by simp), lines_of fun y hy => h y (by simp [hy])]
    simp; omega
/-- A line for each. -/
theorem grf_lines {g : Grf} (h : grfE g = 0) : (grfT g).count 10 = g.nodes.length + g.ties.length := by
  unfold grfT
  rw [List.count_append, lines_of fun n hn => line_nod ((grf_ok h).2.2.2 n hn).2, lines_of fun t ht => line_tie ((grf_ties h).2 t ht)]
theorem dbl_len2 (l : List UInt8) : (dbl l).length ≤ 2 * l.length := by
  induction l with
  | nil => exact Nat.le_refl _
  | cons c l ih => rw [dbl_cons]; split <;> simp <;> omega
theorem show_len {v : Val} (h : valE v = 0) : (showL v).length ≤ 42 := by
  unfold showL
  rcases val_parts h with ⟨h1, h2, h3, _⟩ | ⟨h1, _⟩ | ⟨h1, _, h3, _⟩
  · rw [if_pos h1]; have := (itoa_small h2 h3).2; omega
  · rw [if_neg (by omega), if_pos h1]
    split
    · show (4 : Nat) ≤ 42; omega
    · show (5 : Nat) ≤ 42; omega
  · rw [if_neg (by omega), if_neg (by omega)]
    have h4 := dbl_len2 v.s.data.toList
    have h5 : v.s.data.toList.length = v.s.size := by rw [Array.length_toList]; rfl
    simp only [List.length_cons, List.length_append, List.length_nil]
    omega
theorem name_len {s : ByteArray} (h : nameE s = 0) : s.data.toList.length ≤ 8 := by
  have h5 : s.data.toList.length = s.size := by rw [Array.length_toList]; rfl
  unfold nameE at h
  split at h
  · cases h
  · split at h
    · cases h
    · omega
theorem tail_len : ∀ (r : List (List UInt8)) (sep : List UInt8) (m : Nat), (∀ x ∈ r, x.length ≤ m) → (Lib.joinTail sep r).length ≤ r.length * (m + sep.length)
  | [], _, _, _ => by simp [Lib.joinTail]
  | y :: r, sep, m, h => by
    have hy := h y (by simp)
    have ih := tail_len r sep m fun z hz => h z (List.mem_cons_of_mem _ hz)
    unfold Lib.joinTail at *
    rw [List.map_cons, List.flatten_cons, List.length_append, List.length_append, List.length_cons, Nat.succ_mul]
    omega
theorem join_len : ∀ (xs : List (List UInt8)) (sep : List UInt8) (m : Nat), (∀ x ∈ xs, x.length ≤ m) → (Lib.join xs sep).length ≤ xs.length * (m + sep.length)
  | [], sep, m, _ => by rw [Lib.join_nil]; simp
  | x :: r, sep, m, h => by
    rw [Lib.join_cons, List.length_append]
    have h1 := h x (by simp)
    have h2 := tail_len r sep m fun y hy => h y (List.mem_cons_of_mem _ hy)
    rw [List.length_cons, Nat.succ_mul]
    omega
theorem prp_len {p : Prp} (h : prpE p = 0) : (prpT p).length ≤ 51 := by
  have h1 := name_len (prp_parts h).1
  have h2 := show_len (prp_parts h).2
  unfold prpT
  rw [List.length_append, List.length_cons]; omega
theorem rec_len {r : List Prp} (h : recE r = 0) : (recT r).length ≤ 417 := by
  unfold recT
  split
  · show (1 : Nat) ≤ 417; omega
  · have h1 := join_len (r.map prpT) [44] 51 fun x hx => by
      obtain ⟨p, hp, rfl⟩ := List.mem_map.1 hx
      exact prp_len ((rec_ok h).2.1 p hp)
    have h2 := (rec_ok h).1
    rw [List.length_map] at h1
    have h3 : r.length * (51 + ([44] : List UInt8).length) ≤ 8 * 52 := Nat.mul_le_mul h2 (Nat.le_refl _)
    omega
theorem itoa_id {n : Int} (h : idB n = true) : (Lib.itoa n).length ≤ 10 := by
  unfold idB at h
  simp at h
  exact (itoa_small (by omega) (by omega)).2
theorem nod_len {n : Nod} (h : nodE n = 0) : (nodT n).length ≤ 450 := by
  obtain ⟨h1, h2, h3⟩ := nod_parts2 h
  have k1 := itoa_id h1
  have k2 := name_len h2
  have k3 := rec_len h3
  unfold nodT
  simp only [List.length_append, List.length_cons, List.length_nil]
  omega
theorem tie_len2 {t : Tie} (h : tieE t = 0) : (tieT2 t).length ≤ 450 := by
  obtain ⟨h1, h2, h3⟩ := tie_parts2 h
  have k1 := itoa_id h2
  have k2 := name_len h1
  have k3 := itoa_id h3
  unfold tieT2
  simp only [List.length_append, List.length_cons, List.length_nil]
  omega
theorem flatMap_len {D : Type} {f : D → List UInt8} {m : Nat} : ∀ {l : List D}, (∀ x ∈ l, (f x).length ≤ m) → (l.flatMap f).length ≤ l.length * m
  | [], _ => by simp
  | x :: l, h => by
    have h1 := h x (by simp)
    have h2 := flatMap_len (l := l) fun y hy => h y (List.mem_cons_of_mem _ hy)
    rw [List.flatMap_cons, List.length_append, List.length_cons, Nat.succ_mul]
    omega

end Go.Proofs.YtmbeeaohidgfgaaDoor
