/- Parts: Same, Cmp, RecS, GrC, TieP, VtT. -/
import Derived.Test.YtgioaphnadncfaaDoorMg11
import Derived.Test.YtgioaphnadncfaaDoorMg10
import Derived.Test.YtgioaphnadncfaaDoorMg07
import Derived.Lib.Join
/- Plain: blocks of one element type stay as they are where only blocks of other types are written. No condition. -/
namespace Go.Proofs.YtgioaphnadncfaaDoor
open Go Go.RowKit

/-- All blocks of cells of type T are as they were. -/
def Same (T : TypeId) (w w' : World) : Prop := ∀ (k : Nat) c fr, w.heap[k]? = some (.cells c T fr) → w'.heap[k]? = some (.cells c T fr)
theorem Same.refl (T : TypeId) (w : World) : Same T w w := fun _ _ _ h => h
theorem Same.trans {T : TypeId} {a b c : World} (h : Same T a b) (k : Same T b c) : Same T a c := fun i x fr hx => k i x fr (h i x fr hx)
theorem Same.below {T : TypeId} {w w' : World} (hb : Below w.heap.size w w') : Same T w w' := fun k _ _ h => (hb.block k (Array.getElem?_eq_some_iff.1 h).1).trans h
theorem Same.alloc {T : TypeId} (w : World) (o : Obj) : Same T w (w.alloc o) := .below ((Below.refl _ _).alloc (Nat.le_refl _) _)
theorem Same.drewN {T : TypeId} (w : World) (n : Nat) : Same T w (w.drewN n) := fun _ _ _ h => h
theorem Same.drew {T : TypeId} (w : World) : Same T w w.drew := fun _ _ _ h => h
theorem Same.grown {T e : TypeId} {w w' : World} {B sz n : Nat} {v : Value} {xs : List Value} (ho : Own w B e sz v n xs) (hne : e ≠ T) (hg : w.grownBy w' v.ownBlock) : Same T w w' := fun k c fr h => by
  have hlt := (Array.getElem?_eq_some_iff.1 h).1
  refine (hg.block k hlt fun e' => ?_).trans h
  rcases ho.2 with ⟨rfl, _⟩ | ⟨g, o, cap, cur, rfl, _, hg2, _⟩
  · simp [Value.ownBlock] at e'
  · simp [Value.ownBlock] at e'
    subst e'
    rw [h] at hg2
    injection hg2 with hg2
    injection hg2 with _ h2 _
    exact hne h2.symm
theorem Own.same {w w' : World} {B : Nat} {e : TypeId} {sz : Nat} {v : Value} {n : Nat} {xs : List Value} (h : Own w B e sz v n xs) (hs : Same e w w') : Own w' B e sz v n xs := by
  refine ⟨h.1, ?_⟩
  rcases h.2 with hn | ⟨g, o, cap, cur, rfl, hb, hg, rest⟩
  · exact .inl hn
  · exact .inr ⟨g, o, cap, cur, rfl, hb, hs g cur _ hg, rest⟩

theorem own_of_block {w : World} {b B : Nat} {e : TypeId} {sz n : Nat} {cs : List Value} (h : w.heap[b]? = some (.cells cs.toArray e (0, 0))) (hB : B ≤ b) (hl : cs.length = n * sz) (hm : n ≤ maxLen) : Own w B e sz (.slice (some ⟨b, 0, none⟩) n n) n cs :=
  ⟨hl, .inr ⟨b, 0, n, cs.toArray, rfl, hB, h, Nat.le_refl _, hm, by simp [hl], by rw [List.drop_zero, ← hl]; exact List.take_length⟩⟩
theorem block_cell {w : World} {k : Nat} {c : Array Value} {T : TypeId} {fr : Nat × Nat} (h : w.heap[k]? = some (.cells c T fr)) (i : Nat) : w.cell? ⟨k, i, none⟩ = c[i]? := by
  simp [World.cell?, h]
open Go.RowKit

theorem cb_zero : ∀ {a b : List UInt8}, Lib.compareBytes a b = 0 ↔ a = b
  | [], [] => by simp [Lib.compareBytes]
  | [], _ :: _ => by simp [Lib.compareBytes]
  | _ :: _, [] => by simp [Lib.compareBytes]
  | x :: a, y :: b => by
    have ih := @cb_zero a b
    rw [Lib.compareBytes]
    by_cases h1 : x < y
    · simp [h1]; intro e; subst e; exact absurd h1 (by simp)
    · by_cases h2 : y < x
      · simp [h1, h2]; intro e; subst e; exact absurd h2 (by simp)
      · have e : x = y := by
          apply UInt8.toNat_inj.1
          simp [UInt8.lt_iff_toNat_lt] at h1 h2
          omega
        subst e
        simp [h1, ih]
theorem cb_anti : ∀ (a b : List UInt8), Lib.compareBytes b a = - Lib.compareBytes a b
  | [], [] => by simp [Lib.compareBytes]
  | [], _ :: _ => by simp [Lib.compareBytes]
  | _ :: _, [] => by simp [Lib.compareBytes]
  | x :: a, y :: b => by
    have ih := cb_anti a b
    rw [Lib.compareBytes, Lib.compareBytes]
    by_cases h1 : x < y
    · have h2 : ¬ y < x := by simp [UInt8.lt_iff_toNat_lt] at h1 ⊢; omega
      simp [h1, h2]
    · by_cases h2 : y < x
      · simp [h1, h2]
      · simp [h1, h2, ih]
theorem cb_trans : ∀ {a b c : List UInt8}, Lib.compareBytes a b < 0 → Lib.compareBytes b c < 0 → Lib.compareBytes a c < 0
  | [], [], _, h, _ => by simp [Lib.compareBytes] at h
  | [], _ :: _, [], _, h => by simp [Lib.compareBytes] at h
  | [], _ :: _, _ :: _, _, _ => by simp [Lib.compareBytes]
  | _ :: _, [], _, h, _ => by simp [Lib.compareBytes] at h
  | _ :: _, _ :: _, [], _, h => by simp [Lib.compareBytes] at h
  | x :: a, y :: b, z :: c, h, k => by
    have ih := @cb_trans a b c
    rw [Lib.compareBytes] at h k ⊢
    simp only [UInt8.lt_iff_toNat_lt] at h k ⊢
    by_cases h1 : x.toNat < y.toNat
    · by_cases k1 : y.toNat < z.toNat
      · have : x.toNat < z.toNat := by omega
        simp [this]
      · by_cases k2 : z.toNat < y.toNat
        · simp [k1, k2] at k
        · have : x.toNat < z.toNat := by omega
          simp [this]
    · by_cases h2 : y.toNat < x.toNat
      · simp [h1, h2] at h
      · simp only [h1, h2, if_false] at h
        by_cases k1 : y.toNat < z.toNat
        · have : x.toNat < z.toNat := by omega
          simp [this]
        · by_cases k2 : z.toNat < y.toNat
          · simp [k1, k2] at k
          · simp only [k1, k2, if_false] at k
            have e1 : ¬ x.toNat < z.toNat := by omega
            have e2 : ¬ z.toNat < x.toNat := by omega
            simp only [e1, e2, if_false]
            exact ih h k
theorem cmpS_zero {a b : ByteArray} : cmpS a b = 0 ↔ a = b := by
  unfold cmpS
  rw [cb_zero]
  constructor
  · intro h
    have := Array.toList_inj.1 h
    cases a; cases b; simp at this; rw [this]
  · intro h; rw [h]
theorem cmpS_anti (a b : ByteArray) : cmpS b a = - cmpS a b := cb_anti _ _
theorem cmpS_trans {a b c : ByteArray} (h : cmpS a b < 0) (k : cmpS b c < 0) : cmpS a c < 0 := cb_trans h k


/-! ### The order of names -/
theorem less_cmp : ∀ (a b : List UInt8), Op.bytesLess a b = decide (Lib.compareBytes a b < 0)
  | [], [] => by simp [Op.bytesLess, Lib.compareBytes]
  | [], _ :: _ => by simp [Op.bytesLess, Lib.compareBytes]
  | _ :: _, [] => by simp [Op.bytesLess, Lib.compareBytes]
  | x :: a, y :: b => by
    rw [Op.bytesLess, Lib.compareBytes, less_cmp a b]
    by_cases h1 : x < y
    · simp [h1]
    · by_cases h2 : y < x
      · have : x ≠ y := fun e => by subst e; exact absurd h2 h1
        simp [h1, h2, this]
      · have e : x = y := by
          apply UInt8.toNat_inj.1
          simp [UInt8.lt_iff_toNat_lt] at h1 h2
          omega
        subst e
        simp [h1]
theorem ltS_cmp (a b : ByteArray) : ltS a b = decide (cmpS a b < 0) := by
  unfold ltS cmpS
  rw [less_cmp, ByteArray.toList_eq, ByteArray.toList_eq]
/-! ### record.Get -/

/-! ### What a right graph gives -/

open Go

/-- No end of a line. -/
def flatB (l : List UInt8) : Prop := ∀ c ∈ l, c ≠ 10
theorem flatB.append {a b : List UInt8} (h : flatB a) (k : flatB b) : flatB (a ++ b) := fun c hc => by
  rcases List.mem_append.1 hc with h1 | h1
  · exact h c h1
  · exact k c h1
theorem flatB.cons {c : UInt8} {l : List UInt8} (hc : c ≠ 10) (h : flatB l) : flatB (c :: l) := fun x hx => by
  rcases List.mem_cons.1 hx with rfl | hx
  · exact hc
  · exact h x hx
theorem flatB.nil : flatB [] := fun _ h => by cases h
theorem flatB.count {l : List UInt8} (h : flatB l) : l.count 10 = 0 := List.count_eq_zero.2 fun hm => h 10 hm rfl
theorem flat_digits (u : Nat) : flatB (Lib.decDigits u) := by
  induction u using Nat.strongRecOn with
  | ind u ih =>
    rw [Lib.decDigits]
    by_cases h : u < 10
    · rw [dif_pos h]; exact .cons (ofNat_ne h (.inl (by decide))) .nil
    · rw [dif_neg h]; exact (ih (u / 10) (by omega)).append (.cons (ofNat_ne (by omega) (.inl (by decide))) .nil)
theorem flat_itoa (n : Int) : flatB (Lib.itoa n) := by
  rcases itoa_cases n with ⟨u, _, e⟩ | ⟨u, _, _, e⟩
  · rw [e]; exact flat_digits u
  · rw [e]; exact .cons (by decide) (flat_digits u)
theorem flat_name {s : ByteArray} (h : nameE s = 0) : flatB s.data.toList := fun c hc e => by
  unfold nameE at h
  split at h
  · cases h
  · split at h
    · cases h
    · split at h
      · cases h
      · rename_i hn
        exact hn (List.any_eq_true.2 ⟨c, hc, by subst e; decide⟩)
theorem flat_join : ∀ (xs : List (List UInt8)) (sep : List UInt8), (∀ x ∈ xs, flatB x) → flatB sep → flatB (Lib.join xs sep)
  | [], sep, _, _ => by rw [Lib.join_nil]; exact .nil
  | x :: r, sep, h, hs => by
    rw [Lib.join_cons]
    refine (h x (by simp)).append fun c hc => ?_
    unfold Lib.joinTail at hc
    obtain ⟨l, hl, hcl⟩ := List.mem_flatten.1 hc
    obtain ⟨y, hy, rfl⟩ := List.mem_map.1 hl
    exact (hs.append (h y (by simp [hy]))) c hcl
theorem lines_of {D : Type} {f : D → List UInt8} : ∀ {l : List D}, (∀ x ∈ l, (f x).count 10 = 1) → (l.flatMap f).count 10 = l.length
  | [], _ => rfl
  | x :: l, h => by
    rw [List.flatMap_cons, List.count_append, h x (by simp), lines_of fun y hy => h y (by simp [hy])]
    simp; omega
theorem name_len {s : ByteArray} (h : nameE s = 0) : s.data.toList.length ≤ 8 := by
  have h5 : s.data.toList.length = s.size := by rw [Array.length_toList]; rfl
  unfold nameE at h
  split at h
  · cases h
  · split at h
    · cases h
    · omega
theorem tail_len : ∀ (r : List (List UInt8)) (sep : List UInt8) (m : Nat), (∀ x ∈ r, x.length ≤ m) → (Lib.joinTail sep r).length ≤ r.length * (m + sep.length)
  | [], _, _, _ => by simp [Lib.joinTail]
  | y :: r, sep, m, h => by
    have hy := h y (by simp)
    have ih := tail_len r sep m fun z hz => h z (List.mem_cons_of_mem _ hz)
    unfold Lib.joinTail at *
    rw [List.map_cons, List.flatten_cons, List.length_append, List.length_append, List.length_cons, Nat.succ_mul]
    omega
theorem join_len : ∀ (xs : List (List UInt8)) (sep : List UInt8) (m : Nat), (∀ x ∈ xs, x.length ≤ m) → (Lib.join xs sep).length ≤ xs.length * (m + sep.length)
  | [], sep, m, _ => by rw [Lib.join_nil]; simp
  | x :: r, sep, m, h => by
    rw [Lib.join_cons, List.length_append]
    have h1 := h x (by simp)
    have h2 := tail_len r sep m fun y hy => h y (List.mem_cons_of_mem _ hy)
    rw [List.length_cons, Nat.succ_mul]
    omega
theorem flatMap_len {D : Type} {f : D → List UInt8} {m : Nat} : ∀ {l : List D}, (∀ x ∈ l, (f x).length ≤ m) → (l.flatMap f).length ≤ l.length * m
  | [], _ => by simp
  | x :: l, h => by
    have h1 := h x (by simp)
    have h2 := flatMap_len (l := l) fun y hy => h y (List.mem_cons_of_mem _ hy)
    rw [List.flatMap_cons, List.length_append, List.length_cons, Nat.succ_mul]
    omega
end Go.Proofs.YtgioaphnadncfaaDoor
