/- Parts: FindB, GrC, Cmp, TieP, Own, Qm. -/
import Derived.Test.YtngbbefpphinjaaGreatDoorMg02
import Derived.Test.YtngbbefpphinjaaGreatDoorMg01
import Derived.Maps.AppendAt
/- Contracts: graph.Find and record.Find: where a node of a number, or a property of a name, stands in a list that rises. -/
namespace Go.Proofs.YtngbbefpphinjaaGreatDoor
open Go.RowKit

/-- The first place at which c is not below 0. -/
def lowI {D : Type} (c : D → Int) (l : List D) : Nat := l.findIdx (fun d => decide (0 ≤ c d))
theorem lowI_le {D : Type} (c : D → Int) (l : List D) : lowI c l ≤ l.length := List.findIdx_le_length
theorem low_lt {D : Type} {c : D → Int} {l : List D} {i : Nat} {d : D} (h : i < lowI c l) (hi : l[i]? = some d) : c d < 0 := by
  obtain ⟨hl, rfl⟩ := List.getElem?_eq_some_iff.1 hi
  have := List.not_of_lt_findIdx h
  simp at this
  omega
theorem low_ge {D : Type} {R : D → D → Bool} {c : D → Int} {l : List D} (hc : chain R l = true) (mono : ∀ a b, R a b = true → 0 ≤ c a → 0 ≤ c b) :
    ∀ {i : Nat} {d : D}, lowI c l ≤ i → l[i]? = some d → 0 ≤ c d := by
  intro i
  induction i with
  | zero =>
    intro d h hi
    obtain ⟨hl, rfl⟩ := List.getElem?_eq_some_iff.1 hi
    have h0 : lowI c l = 0 := by omega
    have := List.findIdx_getElem (xs := l) (p := fun d => decide (0 ≤ c d)) (w := by show lowI c l < _; omega)
    simp only [decide_eq_true_eq] at this
    have e : List.findIdx (fun d => decide (0 ≤ c d)) l = 0 := h0
    simp only [e] at this
    exact this
  | succ i ih =>
    intro d h hi
    rcases Nat.lt_or_ge i (lowI c l) with h1 | h1
    · have h0 : lowI c l = i + 1 := by omega
      obtain ⟨hl, rfl⟩ := List.getElem?_eq_some_iff.1 hi
      have := List.findIdx_getElem (xs := l) (p := fun d => decide (0 ≤ c d)) (w := by show lowI c l < _; omega)
      simp only [decide_eq_true_eq] at this
      have e : List.findIdx (fun d => decide (0 ≤ c d)) l = i + 1 := h0
      simp only [e] at this
      exact this
    · have hl : i < l.length := by have := (List.getElem?_eq_some_iff.1 hi).1; omega
      have h2 := ih (d := l[i]) h1 (List.getElem?_eq_getElem hl)
      exact mono _ _ (chain_iff.1 hc i _ _ (List.getElem?_eq_getElem hl) hi) h2

/-! ### Nodes by number -/
def nodLt (a b : Nod) : Bool := decide (a.id < b.id)
def nodC (id : Int) (n : Nod) : Int := cmpI n.id id
def fpos (l : List Nod) (id : Int) : Nat := lowI (nodC id) l
def fhas (l : List Nod) (id : Int) : Bool := eqAt (nodC id) l (fpos l id)
theorem cmpI_neg {a b : Int} : cmpI a b < 0 ↔ a < b := by unfold cmpI; split <;> (try split) <;> omega
theorem cmpI_zero {a b : Int} : cmpI a b = 0 ↔ a = b := by unfold cmpI; split <;> (try split) <;> omega
theorem nodC_mono (id : Int) : ∀ a b, nodLt a b = true → 0 ≤ nodC id a → 0 ≤ nodC id b := by
  intro a b h h1
  unfold nodLt at h
  simp at h
  unfold nodC at h1 ⊢
  have := @cmpI_neg a.id id
  have := @cmpI_neg b.id id
  omega

theorem find1_any (d : Nod) (id : Int) (u : Value) (w : World) (hu : nodV w d u) :
    Calls Tryz.prog 143 #[u, .int .i64 id] w fun e w' => e = .returned (.int .i64 (nodC id d)) ∧ Below w.heap.size w w' := by
  obtain ⟨v, rfl, h1, h2, h3⟩ := hu
  obtain ⟨A, c, rfl, _, _⟩ := h3.form
  have HE : Hid (nodC id d = cmpI d.id id) := rfl
  go_enter Tryz.func143, Tryz.ntmps143
  go_wp2_with (go_at_call 144; refine (cmp_any _ _ _).mono ?_; rintro e w' ⟨rfl, rfl⟩)
  go_ret
  exact ⟨by rw [HE.out]; rfl, (Below.refl _ _).alloc (Nat.le_refl _) _⟩

theorem find_any (g : Grf) (vn vt : Value) (w : World) (hg : GrfR w vn vt g) (id : Int) (hc : chain nodLt g.nodes = true) (hl : g.nodes.length ≤ 1000) :
    Calls Tryz.prog 89 #[.agg #[vn, vt], .int .i64 id] w fun e w' => e = .returned (.tuple #[.int .i64 (fpos g.nodes id), .bool (fhas g.nodes id)]) ∧ Below w.heap.size w w' := by
  obtain ⟨hn, ht⟩ := hg
  obtain ⟨A, c, rfl, _, _⟩ := hn.form
  obtain ⟨A', c', rfl, _, _⟩ := ht.form
  have hb0 : Below w.heap.size w (w.alloc (.cells #[.slice A g.nodes.length c, .slice A' g.ties.length c'] 25)) := (Below.refl _ _).alloc (Nat.le_refl _) _
  have hcall := bs_nod 143 #[] (by intro args w; kernel_rfl) (.int .i64 id) (nodC id) g.nodes _ _ (hn.below hb0) (fun x u wx _ hu => find1_any x id u wx hu) (fpos g.nodes id) hl (lowI_le _ _)
    (fun i d h hi => low_lt h hi) (fun i d h hi => low_ge hc (nodC_mono id) h hi)
  have HE : Hid (fhas g.nodes id = eqAt (nodC id) g.nodes (fpos g.nodes id)) := rfl
  clear hn ht hc
  generalize eqAt (nodC id) g.nodes (fpos g.nodes id) = B at hcall HE
  generalize fpos g.nodes id = K at hcall HE
  go_enter Tryz.func89, Tryz.ntmps89
  go_wp2_with (go_at_call 142; refine hcall.mono ?_; rintro e w' ⟨rfl, hb⟩)
  go_ret2
  exact ⟨by rw [HE.out]; rfl, hb0.trans (hb.mono hb0.size)⟩

/-! ### Properties by name -/
def prpLt (a b : Prp) : Bool := ltS a.name b.name
def prpC (nm : ByteArray) (p : Prp) : Int := cmpS p.name nm
def rpos (l : List Prp) (nm : ByteArray) : Nat := lowI (prpC nm) l
def rhas (l : List Prp) (nm : ByteArray) : Bool := eqAt (prpC nm) l (rpos l nm)
end Go.Proofs.YtngbbefpphinjaaGreatDoor

/- Plain: what a right graph gives. -/
namespace Go.Proofs.YtngbbefpphinjaaGreatDoor

/-! ### What a right graph gives -/
theorem nodsE_step {p : Option Nod} {n : Nod} {r : List Nod} (h : nodsE p (n :: r) = 0) : idB n.id = true ∧ nodE n = 0 ∧ nodsE (some n) r = 0 ∧ (∀ a, p = some a → nodLt a n = true) := by
  have h1 : idB n.id = true := by
    cases h1 : idB n.id with
    | true => rfl
    | false => unfold nodsE at h; rw [if_pos h1] at h; cases h
  have key : ∀ b : Bool, (if b = true then (7 : Int) else if nodE n = 0 then nodsE (some n) r else nodE n) = 0 → b = false ∧ nodE n = 0 ∧ nodsE (some n) r = 0 := by
    intro b hb
    cases b with
    | true => cases hb
    | false =>
      simp only [Bool.false_eq_true, if_false] at hb
      by_cases h3 : nodE n = 0
      · rw [if_pos h3] at hb; exact ⟨rfl, h3, hb⟩
      · rw [if_neg h3] at hb; exact absurd hb h3
  have hid : ¬ (idB n.id = false) := by simp [h1]
  cases p with
  | none =>
    unfold nodsE at h
    rw [if_neg hid] at h
    obtain ⟨_, k2, k3⟩ := key false h
    exact ⟨h1, k2, k3, fun a ha => by cases ha⟩
  | some q =>
    unfold nodsE at h
    rw [if_neg hid] at h
    obtain ⟨k1, k2, k3⟩ := key (decide (n.id ≤ q.id)) h
    refine ⟨h1, k2, k3, fun a ha => ?_⟩
    cases ha
    unfold nodLt
    simpa using k1
theorem nodsE_zero : ∀ {l : List Nod} {p : Option Nod}, nodsE p l = 0 → (∀ n ∈ l, idB n.id = true ∧ nodE n = 0) ∧ chain nodLt l = true ∧ (∀ a b, p = some a → l.head? = some b → nodLt a b = true)
  | [], p, _ => ⟨by simp, rfl, by simp⟩
  | n :: r, p, h => by
    obtain ⟨s1, s2, s3, s4⟩ := nodsE_step h
    obtain ⟨i1, i2, i3⟩ := nodsE_zero s3
    refine ⟨?_, ?_, ?_⟩
    · intro m hm
      rcases List.mem_cons.1 hm with rfl | hm
      · exact ⟨s1, s2⟩
      · exact i1 m hm
    · cases r with
      | nil => rfl
      | cons b r => simp only [chain, Bool.and_eq_true]; exact ⟨i3 n b rfl rfl, i2⟩
    · intro a b ha hb
      simp at hb
      subst hb
      exact s4 a ha
theorem grf_ok {g : Grf} (h : grfE g = 0) : g.nodes.length ≤ 60 ∧ g.ties.length ≤ 120 ∧ chain nodLt g.nodes = true ∧ ∀ n ∈ g.nodes, idB n.id = true ∧ nodE n = 0 := by
  unfold grfE at h
  by_cases h1 : 60 < g.nodes.length ∨ 120 < g.ties.length
  · rw [if_pos h1] at h; cases h
  rw [if_neg h1] at h
  by_cases h2 : nodsE none g.nodes = 0
  · obtain ⟨i1, i2, _⟩ := nodsE_zero h2
    exact ⟨by omega, by omega, i2, i1⟩
  · rw [if_neg h2] at h; exact absurd h h2

theorem fhas_some' {l : List Nod} {id : Int} (h : fhas l id = true) : ∃ n, l[fpos l id]? = some n := by
  unfold fhas eqAt at h
  cases hd : l[fpos l id]? with
  | none => rw [hd] at h; simp at h
  | some d => exact ⟨d, rfl⟩
end Go.Proofs.YtngbbefpphinjaaGreatDoor

/- Plain: the order of texts. -/
namespace Go.Proofs.YtngbbefpphinjaaGreatDoor
open Go.RowKit

theorem cb_zero : ∀ {a b : List UInt8}, Lib.compareBytes a b = 0 ↔ a = b
  | [], [] => by simp [Lib.compareBytes]
  | [], _ :: _ => by simp [Lib.compareBytes]
  | _ :: _, [] => by simp [Lib.compareBytes]
  | x :: a, y :: b => by
    have ih := @cb_zero a b
    rw [Lib.compareBytes]
    by_cases h1 : x < y
    · simp [h1]; intro e; subst e; exact absurd h1 (by simp)
    · by_cases h2 : y < x
      · simp [h1, h2]; intro e; subst e; exact absurd h2 (by simp)
      · have e : x = y := by
          apply UInt8.toNat_inj.1
          simp [UInt8.lt_iff_toNat_lt] at h1 h2
          omega
        subst e
        simp [h1, ih]
theorem cb_anti : ∀ (a b : List UInt8), Lib.compareBytes b a = - Lib.compareBytes a b
  | [], [] => by simp [Lib.compareBytes]
  | [], _ :: _ => by simp [Lib.compareBytes]
  | _ :: _, [] => by simp [Lib.compareBytes]
  | x :: a, y :: b => by
    have ih := cb_anti a b
    rw [Lib.compareBytes, Lib.compareBytes]
    by_cases h1 : x < y
    · have h2 : ¬ y < x := by simp [UInt8.lt_iff_toNat_lt] at h1 ⊢; omega
      simp [h1, h2]
    · by_cases h2 : y < x
      · simp [h1, h2]
      · simp [h1, h2, ih]
theorem cb_trans : ∀ {a b c : List UInt8}, Lib.compareBytes a b < 0 → Lib.compareBytes b c < 0 → Lib.compareBytes a c < 0
  | [], [], _, h, _ => by simp [Lib.compareBytes] at h
  | [], _ :: _, [], _, h => by simp [Lib.compareBytes] at h
  | [], _ :: _, _ :: _, _, _ => by simp [Lib.compareBytes]
  | _ :: _, [], _, h, _ => by simp [Lib.compareBytes] at h
  | _ :: _, _ :: _, [], _, h => by simp [Lib.compareBytes] at h
  | x :: a, y :: b, z :: c, h, k => by
    have ih := @cb_trans a b c
    rw [Lib.compareBytes] at h k ⊢
    simp only [UInt8.lt_iff_toNat_lt] at h k ⊢
    by_cases h1 : x.toNat < y.toNat
    · by_cases k1 : y.toNat < z.toNat
      · have : x.toNat < z.toNat := by omega
        simp [this]
      · by_cases k2 : z.toNat < y.toNat
        · simp [k1, k2] at k
        · have : x.toNat < z.toNat := by omega
          simp [this]
    · by_cases h2 : y.toNat < x.toNat
      · simp [h1, h2] at h
      · simp only [h1, h2, if_false] at h
        by_cases k1 : y.toNat < z.toNat
        · have : x.toNat < z.toNat := by omega
          simp [this]
        · by_cases k2 : z.toNat < y.toNat
          · simp [k1, k2] at k
          · simp only [k1, k2, if_false] at k
            have e1 : ¬ x.toNat < z.toNat := by omega
            have e2 : ¬ z.toNat < x.toNat := by omega
            simp only [e1, e2, if_false]
            exact ih h k
theorem cmpS_zero {a b : ByteArray} : cmpS a b = 0 ↔ a = b := by
  unfold cmpS
  rw [cb_zero]
  constructor
  · intro h
    have := Array.toList_inj.1 h
    cases a; cases b; simp at this; rw [this]
  · intro h; rw [h]
theorem cmpS_anti (a b : ByteArray) : cmpS b a = - cmpS a b := cb_anti _ _
theorem cmpS_trans {a b c : ByteArray} (h : cmpS a b < 0) (k : cmpS b c < 0) : cmpS a c < 0 := cb_trans h k
end Go.Proofs.YtngbbefpphinjaaGreatDoor

/- Plain: the order of ties; what a right graph's ties give. -/
namespace Go.Proofs.YtngbbefpphinjaaGreatDoor

def tieLt (a b : Tie) : Bool := decide (tieO a b < 0)
def tieC (t : Tie) (d : Tie) : Int := tieO d t
def tpos (l : List Tie) (t : Tie) : Nat := lowI (tieC t) l
def thas (l : List Tie) (t : Tie) : Bool := eqAt (tieC t) l (tpos l t)
theorem tieO_neg {a b : Tie} : tieO a b < 0 ↔ cmpS a.bond b.bond < 0 ∨ (a.bond = b.bond ∧ (a.src < b.src ∨ (a.src = b.src ∧ a.dst < b.dst))) := by
  have h0 := @cmpS_zero a.bond b.bond
  have h1 := @cmpI_neg a.src b.src
  have h2 := @cmpI_zero a.src b.src
  have h3 := @cmpI_neg a.dst b.dst
  unfold tieO orI
  by_cases e1 : cmpS a.bond b.bond = 0
  · rw [if_pos e1]
    unfold orI
    by_cases e2 : cmpI a.src b.src = 0
    · rw [if_pos e2]
      unfold orI orI
      have e4 := h2.1 e2
      by_cases e3 : cmpI a.dst b.dst = 0
      · rw [if_pos e3]
        have : ¬ a.dst < b.dst := fun h => by have := h3.2 h; omega
        constructor
        · intro h; omega
        · rintro (h | ⟨_, h | ⟨_, h⟩⟩) <;> omega
      · rw [if_neg e3]
        constructor
        · intro h; exact .inr ⟨h0.1 e1, .inr ⟨e4, h3.1 h⟩⟩
        · rintro (h | ⟨_, h | ⟨_, h⟩⟩)
          · omega
          · omega
          · exact h3.2 h
    · rw [if_neg e2]
      constructor
      · intro h; exact .inr ⟨h0.1 e1, .inl (h1.1 h)⟩
      · rintro (h | ⟨_, h | ⟨h, _⟩⟩)
        · omega
        · exact h1.2 h
        · exact absurd (h2.2 h) e2
  · rw [if_neg e1]
    constructor
    · intro h; exact .inl h
    · rintro (h | ⟨h, _⟩)
      · exact h
      · exact absurd (h0.2 h) e1
theorem tieO_zero {a b : Tie} : tieO a b = 0 ↔ a = b := by
  have h0 := @cmpS_zero a.bond b.bond
  have h2 := @cmpI_zero a.src b.src
  have h3 := @cmpI_zero a.dst b.dst
  have hx : a = b ↔ a.bond = b.bond ∧ a.src = b.src ∧ a.dst = b.dst := by
    cases a; cases b; simp
  rw [hx]
  unfold tieO orI
  by_cases e1 : cmpS a.bond b.bond = 0
  · rw [if_pos e1]
    unfold orI
    by_cases e2 : cmpI a.src b.src = 0
    · rw [if_pos e2]
      unfold orI orI
      by_cases e3 : cmpI a.dst b.dst = 0
      · rw [if_pos e3]; exact ⟨fun _ => ⟨h0.1 e1, h2.1 e2, h3.1 e3⟩, fun _ => rfl⟩
      · rw [if_neg e3]; exact ⟨fun h => absurd h e3, fun h => absurd (h3.2 h.2.2) e3⟩
    · rw [if_neg e2]; exact ⟨fun h => absurd h e2, fun h => absurd (h2.2 h.2.1) e2⟩
  · rw [if_neg e1]; exact ⟨fun h => absurd h e1, fun h => absurd (h0.2 h.1) e1⟩
theorem tieO_trans {a b c : Tie} (h : tieO a b < 0) (k : tieO b c < 0) : tieO a c < 0 := by
  rw [tieO_neg] at h k ⊢
  rcases h with h | ⟨e1, h⟩
  · rcases k with k | ⟨e2, _⟩
    · exact .inl (cmpS_trans h k)
    · exact .inl (by rw [← e2]; exact h)
  · rcases k with k | ⟨e2, k⟩
    · exact .inl (by rw [e1]; exact k)
    · refine .inr ⟨e1.trans e2, ?_⟩
      omega
theorem tieC_mono (t : Tie) : ∀ a b, tieLt a b = true → 0 ≤ tieC t a → 0 ≤ tieC t b := by
  intro a b h h1
  unfold tieLt at h
  unfold tieC at h1 ⊢
  have h := of_decide_eq_true h
  by_cases hb : tieO b t < 0
  · have := tieO_trans h hb; omega
  · omega
theorem tiesE_step {p : Option Tie} {t : Tie} {r : List Tie} (h : tiesE p (t :: r) = 0) : tieE t = 0 ∧ tiesE (some t) r = 0 ∧ (∀ a, p = some a → tieLt a t = true) := by
  have e : tiesE p (t :: r) = if tieE t = 0 then (if (match p with | some q => decide (0 ≤ tieO q t) | none => false) then 7 else tiesE (some t) r) else tieE t := by cases p <;> rfl
  rw [e] at h
  by_cases h1 : tieE t = 0
  · rw [if_pos h1] at h
    cases p with
    | none => exact ⟨h1, h, fun a ha => by cases ha⟩
    | some q =>
      have h : (if decide (0 ≤ tieO q t) = true then (7 : Int) else tiesE (some t) r) = 0 := h
      by_cases h2 : 0 ≤ tieO q t
      · rw [if_pos (decide_eq_true h2)] at h; omega
      · rw [if_neg (fun x => h2 (of_decide_eq_true x))] at h
        exact ⟨h1, h, fun a ha => by cases ha; exact decide_eq_true (by omega)⟩
  · rw [if_neg h1] at h; exact absurd h h1
theorem tiesE_zero : ∀ {l : List Tie} {p : Option Tie}, tiesE p l = 0 → (∀ t ∈ l, tieE t = 0) ∧ chain tieLt l = true ∧ (∀ a b, p = some a → l.head? = some b → tieLt a b = true)
  | [], p, _ => ⟨by simp, rfl, by simp⟩
  | n :: r, p, h => by
    obtain ⟨s1, s3, s4⟩ := tiesE_step h
    obtain ⟨i1, i2, i3⟩ := tiesE_zero s3
    refine ⟨?_, ?_, ?_⟩
    · intro m hm
      rcases List.mem_cons.1 hm with rfl | hm
      · exact s1
      · exact i1 m hm
    · cases r with
      | nil => rfl
      | cons b r => simp only [chain, Bool.and_eq_true]; exact ⟨i3 n b rfl rfl, i2⟩
    · intro a b ha hb
      simp at hb
      subst hb
      exact s4 a ha
theorem grf_parts {g : Grf} (h : grfE g = 0) : nodsE none g.nodes = 0 ∧ tiesE none g.ties = 0 := by
  unfold grfE at h
  by_cases h1 : 60 < g.nodes.length ∨ 120 < g.ties.length
  · rw [if_pos h1] at h; cases h
  rw [if_neg h1] at h
  by_cases h2 : nodsE none g.nodes = 0
  · rw [if_pos h2] at h; exact ⟨h2, h⟩
  · rw [if_neg h2] at h; exact absurd h h2
theorem grf_ties {g : Grf} (h : grfE g = 0) : chain tieLt g.ties = true ∧ ∀ t ∈ g.ties, tieE t = 0 := by
  obtain ⟨i1, i2, _⟩ := tiesE_zero (grf_parts h).2
  exact ⟨i2, i1⟩
end Go.Proofs.YtngbbefpphinjaaGreatDoor

/- Slices that a call owns (from any offset of a block of its own), and what append, a store and a cut make of them. No condition. -/
namespace Go.Proofs.YtngbbefpphinjaaGreatDoor
open Go.RowKit

/-- The slice value v, in a block from B on, holds just the cells xs; nobody else writes there. -/
def Own (w : World) (B : Nat) (e : TypeId) (sz : Nat) (v : Value) (n : Nat) (xs : List Value) : Prop :=
  xs.length = n * sz ∧
  ((v = .slice none 0 0 ∧ n = 0) ∨
   ∃ g o cap cur, v = .slice (some ⟨g, o, none⟩) n cap ∧ B ≤ g ∧ w.heap[g]? = some (.cells cur e (0, 0)) ∧ n ≤ cap ∧ cap ≤ maxLen ∧ o + cap * sz ≤ cur.size ∧ (cur.toList.drop o).take (n * sz) = xs)

section
variable {w w' : World} {B : Nat} {e : TypeId} {sz : Nat} {v : Value} {n : Nat} {xs : List Value}

theorem Own.nil (w : World) (B : Nat) (e : TypeId) (sz : Nat) : Own w B e sz (.slice none 0 0) 0 [] := ⟨by simp, .inl ⟨rfl, rfl⟩⟩
theorem Own.form (h : Own w B e sz v n xs) : ∃ A c, v = .slice A n c ∧ n ≤ c ∧ c ≤ maxLen := by
  rcases h.2 with ⟨rfl, rfl⟩ | ⟨g, o, cap, cur, rfl, _, _, h1, h2, _⟩
  · exact ⟨none, 0, rfl, Nat.le_refl _, Nat.zero_le _⟩
  · exact ⟨_, _, rfl, h1, h2⟩
theorem Own.lt (h : Own w B e sz v n xs) : ∀ k, v.ownBlock = some k → B ≤ k ∧ k < w.heap.size := by
  intro k hk
  rcases h.2 with ⟨rfl, _⟩ | ⟨g, o, cap, cur, rfl, hb, hg, _⟩
  · simp [Value.ownBlock] at hk
  · simp [Value.ownBlock] at hk
    subst hk
    exact ⟨hb, (Array.getElem?_eq_some_iff.1 hg).1⟩
/-- It stays as long as its block does. -/
theorem Own.keep (h : Own w B e sz v n xs) (hk : ∀ k, v.ownBlock = some k → w'.heap[k]? = w.heap[k]?) : Own w' B e sz v n xs := by
  refine ⟨h.1, ?_⟩
  rcases h.2 with hn | ⟨g, o, cap, cur, rfl, hb, hg, rest⟩
  · exact .inl hn
  · exact .inr ⟨g, o, cap, cur, rfl, hb, (hk g (by simp [Value.ownBlock])).trans hg, rest⟩
theorem Own.below (h : Own w B e sz v n xs) (hb : Below w.heap.size w w') : Own w' B e sz v n xs :=
  h.keep fun k hk => hb.block k (h.lt k hk).2
theorem Own.alloc (h : Own w B e sz v n xs) (o : Obj) : Own (w.alloc o) B e sz v n xs :=
  h.keep fun k hk => Below.heap_alloc w o k (h.lt k hk).2
theorem Own.drewN (h : Own w B e sz v n xs) (k : Nat) : Own (w.drewN k) B e sz v n xs := h
theorem Own.grown {row : Option Nat} (h : Own w B e sz v n xs) (hg : w.grownBy w' row) (hne : v.ownBlock = none ∨ v.ownBlock ≠ row) : Own w' B e sz v n xs :=
  h.keep fun k hk => hg.block k (h.lt k hk).2 (by rw [← hk]; rcases hne with h0 | h0; (· rw [hk] at h0; cases h0); exact h0)
theorem Own.setCell (h : Own w B e sz v n xs) (p : Addr) (u : Value) (hne : v.ownBlock ≠ some p.block) : Own (w.setCell p u) B e sz v n xs :=
  h.keep fun k hk => Below.heap_setCell w p u k (fun e => hne (by rw [hk, e]))
theorem Own.mono {B' : Nat} (h : Own w B e sz v n xs) (hB : B' ≤ B) : Own w B' e sz v n xs := by
  refine ⟨h.1, ?_⟩
  rcases h.2 with hn | ⟨g, o, cap, cur, rfl, hb, rest⟩
  · exact .inl hn
  · exact .inr ⟨g, o, cap, cur, rfl, by omega, rest⟩
/-- A cell of it. -/
theorem Own.cell (h : Own w B e sz v n xs) {g o c : Nat} (hv : v = .slice (some ⟨g, o, none⟩) n c) {j : Nat} {u : Value} (hj : xs[j]? = some u) : w.cell? ⟨g, o + j, none⟩ = some u := by
  rcases h.2 with ⟨rfl, _⟩ | ⟨g', o', cap, cur, rfl, _, hg, _, _, hcs, ht⟩
  · cases hv
  · injection hv with h1 _ _
    injection h1 with h1
    injection h1 with h1 h2
    subst h1; subst h2
    rw [cell_of_row w g' _ cur e (0, 0) hg]
    rw [← ht, List.getElem?_take] at hj
    split at hj
    · rw [List.getElem?_drop] at hj; simpa using hj
    · cases hj
theorem Own.frozen (h : Own w B e sz v n xs) {g o c : Nat} (hv : v = .slice (some ⟨g, o, none⟩) n c) (j : Nat) : w.frozen? ⟨g, j, none⟩ = false := by
  rcases h.2 with ⟨rfl, _⟩ | ⟨g', o', cap, cur, rfl, _, hg, _⟩
  · cases hv
  · injection hv with h1 _ _
    injection h1 with h1
    injection h1 with h1 h2
    subst h1
    simp [World.frozen?, hg]
theorem Own.addr (h : Own w B e sz v n xs) (hn : 0 < n) : ∃ g o c, v = .slice (some ⟨g, o, none⟩) n c ∧ B ≤ g ∧ g < w.heap.size := by
  rcases h.2 with ⟨_, h0⟩ | ⟨g, o, cap, cur, rfl, hb, hg, _⟩
  · omega
  · exact ⟨g, o, cap, rfl, hb, (Array.getElem?_eq_some_iff.1 hg).1⟩
/-- A store into it. -/
theorem Own.store {g o c : Nat} (h : Own w B e sz (.slice (some ⟨g, o, none⟩) n c) n xs) (j : Nat) (hj : j < n * sz) (u : Value) : Own (w.setCell ⟨g, o + j, none⟩ u) B e sz (.slice (some ⟨g, o, none⟩) n c) n (xs.set j u) := by
  refine ⟨by rw [List.length_set]; exact h.1, ?_⟩
  rcases h.2 with ⟨h0, _⟩ | ⟨g', o', cap, cur, hv, hb, hg, h1, h2, h3, ht⟩
  · cases h0
  · injection hv with e1 _ e3
    injection e1 with e1
    injection e1 with e1 e2
    subst e1; subst e2; subst e3
    refine .inr ⟨g, o, c, cur.setIfInBounds (o + j) u, rfl, hb, ?_, h1, h2, by simpa using h3, ?_⟩
    · simp [World.setCell, Array.getElem?_modify, hg]
    · have hle : n * sz ≤ c * sz := Nat.mul_le_mul_right _ h1
      rw [← ht]
      apply List.ext_getElem?
      intro i
      simp only [List.getElem?_take, List.getElem?_drop, Array.toList_setIfInBounds, List.getElem?_set]
      by_cases hij : j = i
      · subst hij
        have hoj : o + j < cur.size := by omega
        have hjx : j < (List.take (n * sz) (List.drop o cur.toList)).length := by simp; omega
        simp [hj, hoj]
        omega
      · simp [hij]
end

theorem grownBy_refl (w : World) (row : Option Nat) : w.grownBy w row := ⟨rfl, rfl, rfl, Nat.le_refl _, fun _ _ _ => rfl⟩

section
variable {P : Program} (w : World)
theorem run_append_at (t ty e : TypeId) (i : TypeInfo) (ht : P.underlying t = some (.slice e)) (hi : P.info? e = some i)
    (g o sLen sCap : Nat) (cur : Array Value) (hg : w.heap[g]? = some (.cells cur e (0, 0)))
    (a : Addr) (m c : Nat) (news : List Value) (hl : news.length = m * i.size) (hnews : ∀ j u, news[j]? = some u → w.cell? (a.add j) = some u) (h1 : ∀ u ∈ news, u.oneCell' = true)
    (hroom : sLen + m ≤ sCap) (hfit : o + sLen * i.size + news.length ≤ cur.size) :
    (Builtin.append_ #[t, t] ty #[.slice (some ⟨g, o, none⟩) sLen sCap, .slice (some a) m c]).run P w =
      .ok (.slice (some ⟨g, o, none⟩) (sLen + m) sCap) (w.setRow g (cur.toList.take (o + sLen * i.size) ++ news ++ cur.toList.drop (o + sLen * i.size + news.length)).toArray) := by
  have hf := run_firstCells_some (P := P) w i.size m a m c news hl hnews
  have hst := run_storeCells_at P g (o + sLen * i.size) e news 0 cur w hg (by simpa using hfit) h1
  simp only [Nat.add_zero] at hst
  have hadd : (⟨g, o, none⟩ : Addr).add (sLen * i.size) = ⟨g, o + sLen * i.size, none⟩ := by unfold Addr.add; split <;> simp_all
  simp [Builtin.append_, run_underlying ht, sizeOf, typeInfo, hi, Builtin.lenOf, hroom, hf, hadd, hst]

/-- append onto an owned slice, whatever is appended. -/
theorem run_append_q (B : Nat) (t ty e : TypeId) (i : TypeInfo) (z : Value) (size bytes : Nat) (ht : P.underlying t = some (.slice e)) (hi : P.info? e = some i) (hz : i.zero = some z)
    (hsize : i.size = size) (hby : i.bytes = bytes) (hzs : z.cells.size = size) (hsz : 0 < size)
    (v : Value) (n : Nat) (xs : List Value) (hown : Own w B e size v n xs)
    (A : Option Addr) (m c : Nat) (news : List Value) (hl : news.length = m * size) (hA : 0 < m → ∃ a, A = some a ∧ ∀ j u, news[j]? = some u → w.cell? (a.add j) = some u) (h1 : ∀ u ∈ news, u.oneCell' = true)
    (h63 : n + m ≤ maxLen) (hbytes : (n + m) * bytes ≤ 140737488355328) (hbase : B ≤ w.heap.size) :
    ∃ v' w', (Builtin.append_ #[t, t] ty #[v, .slice A m c]).run P w = .ok v' w' ∧ Own w' B e size v' (n + m) (xs ++ news) ∧ w.grownBy w' v.ownBlock ∧ (v'.ownBlock = v.ownBlock ∨ v'.ownBlock = some w.heap.size) := by
  subst hsize
  subst hby
  have hsmall : n + m ≤ 9223372036854775807 := by simp only [maxLen] at h63; omega
  have hlen : (xs ++ news).length = (n + m) * i.size := by rw [List.length_append, hown.1, hl, Nat.add_mul]
  have grown : ∀ (old : Nat), old < n + m → ∀ (row : Option Nat),
      Own (w.drew.alloc (.cells (xs.toArray ++ news.toArray ++ Builtin.zeroCells z.cells (grownCap w (n + m) old e - (n + m))) e)) B e i.size
        (.slice (some ⟨w.heap.size, 0, none⟩) (n + m) (grownCap w (n + m) old e)) (n + m) (xs ++ news) ∧
      w.grownBy (w.drew.alloc (.cells (xs.toArray ++ news.toArray ++ Builtin.zeroCells z.cells (grownCap w (n + m) old e - (n + m))) e)) row := by
    intro old ho row
    have hge := grownCap_ge w (n + m) old e
    have hcm : grownCap w (n + m) old e ≤ maxLen := grownCap_le_maxLen w (n + m) old e h63
    refine ⟨⟨hlen, .inr ⟨w.heap.size, 0, _, _, rfl, hbase, heap_alloc_new w.drew _, hge, hcm, ?_, ?_⟩⟩, ⟨rfl, rfl, rfl, by simp, fun k hk _ => Below.heap_alloc w.drew _ k hk⟩⟩
    · simp only [Array.size_append, List.size_toArray, size_zeroCells, hzs, hown.1, hl, ← Nat.add_mul]
      have : n + m + (grownCap w (n + m) old e - (n + m)) = grownCap w (n + m) old e := by omega
      rw [this]; omega
    · simp only [Array.toList_append, List.append_assoc, List.drop_zero]
      rw [← List.append_assoc, ← hlen]
      exact List.take_left
  by_cases hm : m = 0
  · subst hm
    have hn : news = [] := List.eq_nil_of_length_eq_zero (by simpa using hl)
    subst hn
    refine ⟨v, w, ?_, by simpa using hown, grownBy_refl w _, Or.inl rfl⟩
    rcases hown.2 with ⟨rfl, rfl⟩ | ⟨g, o, cap, cur, rfl, _, hg, hnc, _⟩
    · cases A <;> simp [Builtin.append_, run_underlying ht, sizeOf, typeInfo, hi, Builtin.lenOf, Builtin.firstCells, loadCells, loadCellsFrom]
    · cases A <;> simp [Builtin.append_, run_underlying ht, sizeOf, typeInfo, hi, Builtin.lenOf, Builtin.firstCells, loadCells, loadCellsFrom, hnc, storeCells]
  obtain ⟨a, rfl, hnews⟩ := hA (by omega)
  rcases hown.2 with ⟨rfl, rfl⟩ | ⟨g, o, cap, cur, rfl, hbg, hg, hnc, hcm, hcs, htake⟩
  · have hx : xs = [] := List.eq_nil_of_length_eq_zero (by simpa using hown.1)
    subst hx
    have hr := run_append_nil (P := P) w t ty e i z ht hi hz a m c news hl hnews (by omega) (by omega) (by have hb := hbytes; simp only [Nat.zero_add] at hb; omega)
    have hgr := grown 0 (by omega) (Value.ownBlock (.slice none 0 0))
    simp only [Nat.zero_add, List.nil_append, Array.empty_append] at hgr ⊢
    exact ⟨_, _, hr, hgr.1, hgr.2, Or.inr rfl⟩
  · by_cases hroom : n + m ≤ cap
    · have hle : (n + m) * i.size ≤ cap * i.size := Nat.mul_le_mul_right _ hroom
      have hnm : n * i.size + news.length = (n + m) * i.size := by rw [hl, ← Nat.add_mul]
      have hfit : o + n * i.size + news.length ≤ cur.size := by omega
      have hr := run_append_at (P := P) w t ty e i ht hi g o n cap cur hg a m c news hl hnews h1 hroom hfit
      refine ⟨_, _, hr, ⟨hlen, .inr ⟨g, o, cap, _, rfl, hbg, setRow_heap w g cur _ e _ hg, hroom, hcm, ?_, ?_⟩⟩, ⟨rfl, rfl, rfl, by simp, fun k _ hk => setRow_other w g k _ (fun e => hk (by simp [Value.ownBlock, e]))⟩, Or.inl rfl⟩
      · simp only [List.size_toArray, List.length_append, List.length_take, List.length_drop, Array.length_toList]
        omega
      · simp only [List.append_assoc]
        rw [List.drop_append_of_le_length (by simp; omega), ← List.append_assoc]
        have e1 : (cur.toList.take (o + n * i.size)).drop o = xs := by rw [List.drop_take, ← htake]; congr 1; omega
        rw [e1, ← hlen]
        exact List.take_left
    · have holds : ∀ j u, xs[j]? = some u → w.cell? ((⟨g, o, none⟩ : Addr).add j) = some u := by
        intro j u hj
        have hadd : (⟨g, o, none⟩ : Addr).add j = ⟨g, o + j, none⟩ := by unfold Addr.add; split <;> simp_all
        rw [hadd]
        exact hown.cell rfl hj
      have hr := run_append_grow (P := P) w t ty e i z ht hi hz ⟨g, o, none⟩ n cap xs hown.1 holds a m c news hl hnews (by omega) (by omega) (growslice_fits (by omega) hbytes)
      have hgr := grown cap (by omega) (Value.ownBlock (.slice (some ⟨g, o, none⟩) n cap))
      exact ⟨_, _, hr, hgr.1, hgr.2, Or.inr rfl⟩

theorem wp_append_q {o : Oper} {a : Act} {K : Act → World → Prop} {Q : Exit → Act → World → Prop} (s x : Operand) (t : TypeId)
    (ho : o.op = .call { callee := .builtin .append, args := #[s, x], argTypes := #[t, t] })
    (B : Nat) (e : TypeId) (i : TypeInfo) (z : Value) (size bytes : Nat) (ht : P.underlying t = some (.slice e)) (hi : P.info? e = some i) (hz : i.zero = some z)
    (hsize : i.size = size) (hby : i.bytes = bytes) (hzs : z.cells.size = size) (hsz : 0 < size)
    (v : Value) (n : Nat) (xs : List Value) (hs : a.eval s = v) (hown : Own w B e size v n xs)
    (A : Option Addr) (m c : Nat) (news : List Value) (hx : a.eval x = .slice A m c) (hl : news.length = m * size) (hA : 0 < m → ∃ a, A = some a ∧ ∀ j u, news[j]? = some u → w.cell? (a.add j) = some u) (h1 : ∀ u ∈ news, u.oneCell' = true)
    (h63 : n + m ≤ maxLen) (hbytes : (n + m) * bytes ≤ 140737488355328) (hbase : B ≤ w.heap.size)
    (h : ∀ v' w', Own w' B e size v' (n + m) (xs ++ news) → w.grownBy w' v.ownBlock → (v'.ownBlock = v.ownBlock ∨ v'.ownBlock = some w.heap.size) → K (a.put o.dst v') w') : o.wp P a w K Q := by
  obtain ⟨v', w', hr, h2, h3, h4⟩ := run_append_q (P := P) w B t o.type e i z size bytes ht hi hz hsize hby hzs hsz v n xs hown A m c news hl hA h1 h63 hbytes hbase
  unfold Oper.wp execOp
  simp only [ho, resolve, invoke, builtin, Sem.run_bind, Sem.run_pure, Result.andThen_ok, List.map_toArray, List.map_cons, List.map_nil, hs, hx, hr]
  exact h v' w' h2 h3 h4

theorem wpList_append_q {ops : Array Oper} {rest : List Oper} {o : Oper} {a : Act} {Q : Exit → Act → World → Prop} (hgd : o.guard = none) (s x : Operand) (t : TypeId)
    (ho : o.op = .call { callee := .builtin .append, args := #[s, x], argTypes := #[t, t] })
    (B : Nat) (e : TypeId) (i : TypeInfo) (z : Value) (size bytes : Nat) (ht : P.underlying t = some (.slice e)) (hi : P.info? e = some i) (hz : i.zero = some z)
    (hsize : i.size = size) (hby : i.bytes = bytes) (hzs : z.cells.size = size) (hsz : 0 < size)
    (v : Value) (n : Nat) (xs : List Value) (hs : a.eval s = v) (hown : Own w B e size v n xs)
    (A : Option Addr) (m c : Nat) (news : List Value) (hx : a.eval x = .slice A m c) (hl : news.length = m * size) (hA : 0 < m → ∃ a, A = some a ∧ ∀ j u, news[j]? = some u → w.cell? (a.add j) = some u) (h1 : ∀ u ∈ news, u.oneCell' = true)
    (h63 : n + m ≤ maxLen) (hbytes : (n + m) * bytes ≤ 140737488355328) (hbase : B ≤ w.heap.size)
    (h : ∀ v' w', Own w' B e size v' (n + m) (xs ++ news) → w.grownBy w' v.ownBlock → (v'.ownBlock = v.ownBlock ∨ v'.ownBlock = some w.heap.size) → wpList P ops Q rest (a.put o.dst v') w') : wpList P ops Q (o :: rest) a w :=
  wpList_plain hgd fun _ hK => wp_append_q w s x t ho B e i z size bytes ht hi hz hsize hby hzs hsz v n xs hs hown A m c news hx hl hA h1 h63 hbytes hbase fun v' w' h2 h3 h4 => hK _ _ (h v' w' h2 h3 h4)
end

/-- An owned row of ints reads as them. -/
theorem Own.ints {w : World} {B : Nat} {e : TypeId} {v : Value} {l : List Int} (hl : ∀ x ∈ l, I64 x) (h : Own w B e 1 v l.length (l.map (Value.int .i64))) : Sl intL w v l := by
  obtain ⟨A, c, rfl, h1, h2⟩ := h.form
  refine ⟨A, c, rfl, h1, h2, fun i d hi => ?_⟩
  obtain ⟨g, o, c', hv, _, _⟩ := h.addr (len_pos hi)
  injection hv with hA _ hc
  subst hA; subst hc
  refine ⟨g, o, _, rfl, ⟨rfl, hl d (List.mem_of_getElem? hi)⟩, fun j u hj => ?_⟩
  match j, hj with
  | 0, hj =>
    simp at hj
    subst hj
    have := h.cell rfl (j := i) (u := .int .i64 d) (by simp [hi])
    simpa [intL, flatL] using this
end Go.Proofs.YtngbbefpphinjaaGreatDoor

/- A region that draws its order: first operations that only read, then one that may do anything, then again operations that only read: one walk in the order of the text serves every order. Conditions: the Bool on the region. -/
namespace Go.Proofs.YtngbbefpphinjaaGreatDoor
open Go Go.RowKit Go.Sort
section
variable {P : Program} {ops : Array Oper} {md : Region.Mode} {C : World → Prop}

/-- Each operation behind n waits for one from n on. -/
def tailB (md : Region.Mode) (ops : Array Oper) (n : Nat) : Bool :=
  (List.range ops.size).all fun t => decide (t ≤ n) || (List.range t).any fun j => decide (n ≤ j) && Region.waitsFor md ops t j

theorem tail_waits2 {n : Nat} {listed : Array Bool} (hs : Region.sinkB md ops n = true) (hc : tailB md ops n = true) (hn : n < ops.size) (inv : HeadInv md ops n listed) :
    ∀ (d i : Nat), n - i = d → i < n → listed.getD i true = false → ∀ t, n ≤ t → t ∉ Region.ready md ops listed := by
  intro d
  induction d using Nat.strongRecOn with
  | _ d ih =>
    intro i hd hi hun t ht hr
    obtain ⟨_, ot, hot, hall⟩ := mem_ready.1 hr
    have htlt : t < ops.size := (Array.getElem?_eq_some_iff.1 hot).1
    by_cases htn : t = n
    · subst htn
      have h1 := List.all_eq_true.1 hs i (List.mem_range.2 hi)
      obtain ⟨j, hj, hj2⟩ := List.any_eq_true.1 h1
      simp only [Bool.and_eq_true, decide_eq_true_eq] at hj2
      obtain ⟨oj, hoj, e, he, hb, hon⟩ := Region.waitsFor_spec hj2.2
      have hjle : j ≤ t := by have := List.mem_range.1 hj; omega
      by_cases hjt : j = t
      · subst hjt
        have : oj = ot := Option.some.inj (hoj.symm.trans hot)
        subst this
        have h2 := hall e he hb
        rw [hon, getD_both hun] at h2
        cases h2
      · cases hl : listed.getD j false with
        | true =>
          have h2 := inv.closed j oj hoj hl e he hb
          rw [hon, getD_both hun] at h2
          cases h2
        | false =>
          have hjs : j < listed.size := by rw [inv.size]; omega
          exact ih (t - j) (by omega) j rfl (by omega) (getD_in hjs hl) t (Nat.le_refl _) hr
    · have h1 := List.all_eq_true.1 hc t (List.mem_range.2 htlt)
      simp only [Bool.or_eq_true, decide_eq_true_eq] at h1
      rcases h1 with h1 | h1
      · omega
      · obtain ⟨j, hj, hj2⟩ := List.any_eq_true.1 h1
        simp only [Bool.and_eq_true, decide_eq_true_eq] at hj2
        have hjt := List.mem_range.1 hj
        obtain ⟨o', ho', e, he, hb, hon⟩ := Region.waitsFor_spec hj2.2
        have : o' = ot := Option.some.inj (ho'.symm.trans hot)
        subst this
        have h2 := hall e he hb
        rw [hon, getD_both (inv.tail j hj2.1 (by omega))] at h2
        cases h2

theorem wpAnyLQ_first2 {n i : Nat} {oi : Oper} {v : Value} {L : Array Bool → Act → Prop} (hi : ops[i]? = some oi) (hsel : ∀ (j : Nat) (o : Oper) cs b, ops[j]? = some o → o.op ≠ .select cs b)
    (hs : Region.sinkB md ops n = true) (hc : tailB md ops n = true) (hn : n < ops.size) (hin : i < n)
    (hdone : ∀ listed a, L listed a → ∀ j ∈ Region.ready md ops listed, n ≤ j) :
    ∀ (f : Nat) (listed : Array Bool) (a : Act), HeadInv md ops n listed →
      (∀ j oj, ops[j]? = some oj → j ≠ i → listed.getD j true = false → (∀ e ∈ oj.after, Region.binds md e = true → e.on ≠ i) → oi.apart ops oj = true) →
      i ∈ Region.ready md ops listed → YieldsIn P ops C oi v a →
      wpAnyLQ P md ops C n L f (listed.setIfInBounds i true) (a.put oi.dst v) → wpAnyLQ P md ops C n L (f + 1) listed a := by
  intro f
  induction f with
  | zero =>
    intro listed a inv _ hr hy H
    have hun := (mem_ready.1 hr).1
    refine ⟨fun h => (by rw [h] at hr; cases hr), fun j hj => ?_⟩
    have hjn : j < n := by
      rcases Nat.lt_or_ge j n with h | h
      · exact h
      · exact absurd hj (tail_waits2 hs hc hn inv _ i rfl hin hun j h)
    refine ⟨hjn, ?_⟩
    by_cases hji : j = i
    · subst hji; exact hy.qOp hi H
    · have := hdone _ _ H j (ready_mono hj hji)
      omega
  | succ f ih =>
    intro listed a inv hfree hr hy H
    have hun := (mem_ready.1 hr).1
    refine ⟨fun h => (by rw [h] at hr; cases hr), fun j hj => ?_⟩
    have hjn : j < n := by
      rcases Nat.lt_or_ge j n with h | h
      · exact h
      · exact absurd hj (tail_waits2 hs hc hn inv _ i rfl hin hun j h)
    refine ⟨hjn, ?_⟩
    by_cases hji : j = i
    · subst hji; exact hy.qOp hi H
    · have h1 := (H.2 j (ready_mono hj hji)).2
      obtain ⟨hjun, oj, hoj, hall⟩ := mem_ready.1 hj
      have hnot : ∀ e ∈ oj.after, Region.binds md e = true → e.on ≠ i := fun e he hb heq => by
        have h1 := hall e he hb
        rw [heq, getD_both hun] at h1
        cases h1
      have h2 := qOp_put hoj (hfree j oj hoj hji hjun hnot) (fun cs b => hsel i oi cs b hi) (fun cs b => hsel j oj cs b hoj) hy h1
      have hfree' : ∀ k ok, ops[k]? = some ok → k ≠ i → (listed.setIfInBounds j true).getD k true = false →
          (∀ e ∈ ok.after, Region.binds md e = true → e.on ≠ i) → oi.apart ops ok = true := fun k ok hk hki hun hno => by
        refine hfree k ok hk hki ?_ hno
        by_cases hjk : j = k
        · subst hjk; exact hjun
        · rw [getD_set_ne true hjk] at hun; exact hun
      refine qOp_mono (fun a' h3 => ih (listed.setIfInBounds j true) a' (inv.set hj hjn) hfree' (ready_mono hr (Ne.symm hji)) h3.1 ?_) h2
      rw [Array.setIfInBounds_comm _ _ hji]
      exact h3.2

/-- What is left of the order when the first n are listed: n alone, then the rest in the order of the text. -/
def midRest (md : Region.Mode) (ops : Array Oper) (g n : Nat) (listed : Array Bool) : Bool :=
  decide (Region.ready md ops listed = [n]) && Region.lexFrom md ops g (n + 1) (listed.setIfInBounds n true)
def midHead (md : Region.Mode) (ops : Array Oper) (g n : Nat) : Nat → Nat → Array Bool → Bool
  | 0, _, listed => midRest md ops g n listed
  | f + 1, k, listed => (Region.ready md ops listed).contains k && Region.free md ops listed k && midHead md ops g n f (k + 1) (listed.setIfInBounds k true)
def midB (md : Region.Mode) (ops : Array Oper) (n : Nat) : Bool :=
  Region.noSelect ops && decide (n < ops.size) && Region.sinkB md ops n && tailB md ops n && midHead md ops (ops.size - n - 1) n n 0 (Array.replicate ops.size false)

theorem wpAnyLQ_lex2 {n g : Nat} {Lq : Act → Prop} (hsel : Region.noSelect ops = true) (hs : Region.sinkB md ops n = true) (hc : tailB md ops n = true) (hn : n < ops.size) :
    ∀ (l : List Oper) (k : Nat) (listed : Array Bool) (a : Act), (∀ j, j < l.length → l[j]? = ops[k + j]?) → k + l.length = n → HeadInv md ops n listed →
    midHead md ops g n l.length k listed = true → wpQuiet P ops C Lq l a →
    wpAnyLQ P md ops C n (fun listed' a' => midRest md ops g n listed' = true ∧ Lq a') l.length listed a
  | [], k, listed, a, _, _, _, hB, h => ⟨by simpa [midHead] using hB, h⟩
  | o :: l, k, listed, a, hl, hk, inv, hB, h => by
    have h0 : ops[k]? = some o := by simpa using (hl 0 (by simp)).symm
    simp only [List.length_cons, midHead, Bool.and_eq_true] at hB
    obtain ⟨⟨hr, hf⟩, hB'⟩ := hB
    have hkn : k < n := by simp only [List.length_cons] at hk; omega
    have hr' : k ∈ Region.ready md ops listed := by simpa using hr
    have hst : qOp P ops C k (wpQuiet P ops C Lq l) a := by unfold qOp; simp only [h0]; exact h
    obtain ⟨v, hy, hK⟩ := yieldsIn_of_qOp h0 hst
    exact wpAnyLQ_first2 h0 (Region.noSelect_spec hsel) hs hc hn hkn (fun listed' a' hL => by
        have h2 := hL.1
        simp only [midRest, Bool.and_eq_true, decide_eq_true_eq] at h2
        intro j hj
        rw [h2.1] at hj
        have : j = n := by simpa using hj
        omega) l.length listed a inv (Region.free_spec h0 hf) hr' hy
      (wpAnyLQ_lex2 hsel hs hc hn l (k + 1) _ _ (fun j hj => by have := hl (j + 1) (by simp; omega); simpa [Nat.add_assoc, Nat.add_comm 1 j] using this) (by simp only [List.length_cons] at hk; omega) (inv.set hr' hkn) hB' hK)

theorem wp_region_mid {id : Nat} {Q : Exit → Act → World → Prop} {a : Act} {w : World} {l : List Oper} (n : Nat) (om : Oper) (hom : l[n]? = some om) (hgd : om.guard = none) (hm : P.follows .mixedOrders = true) (hB : midB .any l.toArray n = true)
    (hC : C { w with drawn := w.drawn + 1 })
    (h : wpQuiet P l.toArray C (fun a' => ∀ w', C w' → om.wp P a' w' (fun a2 w2 => wpQuiet P l.toArray (fun x => ∃ n, x = w2.drewN n) (fun a3 => ∀ w3, (∃ n, w3 = w2.drewN n) → Q .normal a3 w3) (l.drop (n + 1)) a2) Q) (l.take n) a) : (Code.region id l.toArray true).wp P Q a w := by
  simp only [midB, Bool.and_eq_true, decide_eq_true_eq] at hB
  obtain ⟨⟨⟨⟨hsel, hn⟩, hs⟩, hc⟩, hlex⟩ := hB
  have hn' : n < l.length := by simpa using hn
  have htl : (l.take n).length = n := by simp; omega
  have hdl : (l.drop (n + 1)).length = l.toArray.size - n - 1 := by simp; omega
  have inv0 : HeadInv .any l.toArray n (Array.replicate l.toArray.size false) :=
    ⟨by simp, fun j oj _ hl => (by rw [getD_replicate_false] at hl; cases hl), fun t _ ht => getD_in (by simpa using ht) (getD_replicate_false _ _)⟩
  have H := wpAnyLQ_lex2 (C := C) (md := .any) (g := l.toArray.size - n - 1) hsel hs hc hn (l.take n) 0 _ a (fun j hj => by
    have hj' : j < n := by rw [htl] at hj; exact hj
    simp [hj']) (by simpa using htl) inv0 (by rw [htl]; exact hlex) h
  refine wp_region_any hm ?_
  have key := wpAny_of_headQ (C := C) (Q' := Q) (g := l.toArray.size - n - 1 + 1) (fun listed a' w' hw' hL => by
    have h1 := hL.1
    simp only [midRest, Bool.and_eq_true, decide_eq_true_eq] at h1
    refine ⟨fun h0 => (by rw [h1.1] at h0; cases h0), fun i hi => ?_⟩
    rw [h1.1] at hi
    obtain rfl : i = n := by simpa using hi
    have h0 : l.toArray[i]? = some om := by simpa using hom
    unfold wpOp
    simp only [h0]
    have hw : Region.wanted om (yielded l.toArray a'.tmps) = true := by simp [Region.wanted, hgd]
    simp only [hw, if_true]
    refine .inl ?_
    have h2 := hL.2 w' hw'
    unfold Oper.wp at h2 ⊢
    generalize (execOp a'.eval om).run P w' = r at h2 ⊢
    have step : ∀ a2 w2, wpQuiet P l.toArray (fun x => ∃ n, x = w2.drewN n) (fun a3 => ∀ w3, (∃ n, w3 = w2.drewN n) → Q .normal a3 w3) (l.drop (i + 1)) a2 →
        wpAny P .any l.toArray Q (l.toArray.size - i - 1) (listed.setIfInBounds i true) a2 w2 := fun a2 w2 hq => by
      have h3 := wpAnyQ_lex (C := fun x => ∃ n, x = w2.drewN n) (md := .any) hsel (l.drop (i + 1)) (i + 1) (listed.setIfInBounds i true) a2 (fun j => by simp [List.getElem?_drop]) (by rw [hdl]; exact h1.2) hq
      rw [hdl] at h3
      exact wpAny_of_quiet (Q := fun a3 => ∀ w3, (∃ n, w3 = w2.drewN n) → Q .normal a3 w3) (fun _ w3 hw3 h => h w3 hw3) _ _ _ _ ⟨0, rfl⟩ h3
    cases r with
    | ok nx w2 =>
      cases nx <;> simp only [Oper.upon] at h2 ⊢
      case value v => exact step _ _ h2
      case skip => exact step _ _ h2
      case defer d => exact step _ _ h2
      case enter f args =>
        refine h2.mono fun e w3 h3 => ?_
        cases e with
        | returned v => exact step _ _ h3
        | panicked c => exact h3
        | outgrown => exact h3
      case row r args => exact h2.mono fun v w3 h3 => step _ _ h3
      all_goals first | exact h2.elim | exact h2
    | halt hh w2 =>
      cases hh <;> simp only [Oper.upon] at h2 ⊢
      all_goals first | exact h2 | exact h2.elim) _ _ _ _ hC H
  rw [htl, show n + (l.toArray.size - n - 1 + 1) = l.toArray.size by simp only [List.size_toArray]; omega] at key
  exact key

theorem wp_mid_drew {id : Nat} {Q : Exit → Act → World → Prop} {a : Act} {w : World} {l : List Oper} (n : Nat) (om : Oper) (hom : l[n]? = some om) (hgd : om.guard = none) (hm : P.follows .mixedOrders = true) (hB : midB .any l.toArray n = true)
    (h : wpQuiet P l.toArray (fun w' => ∃ n, w' = w.drewN n) (fun a' => ∀ w', (∃ n, w' = w.drewN n) → om.wp P a' w' (fun a2 w2 => wpQuiet P l.toArray (fun x => ∃ n, x = w2.drewN n) (fun a3 => ∀ w3, (∃ n, w3 = w2.drewN n) → Q .normal a3 w3) (l.drop (n + 1)) a2) Q) (l.take n) a) : (Code.region id l.toArray true).wp P Q a w :=
  wp_region_mid (C := fun w' => ∃ n, w' = w.drewN n) n om hom hgd hm hB ⟨1, rfl⟩ h
theorem quiet_mono {o : Oper} {K K' : Act → Prop} {a : Act} (h : ∀ a, K a → K' a) (hq : o.quiet P a C K) : o.quiet P a C K' := by
  unfold Oper.quiet at hq ⊢
  obtain ⟨v, h1, h2⟩ := hq
  exact ⟨v, h1, h _ h2⟩
theorem wpQuiet_mono {K K' : Act → Prop} (h : ∀ a, K a → K' a) : ∀ (l : List Oper) (a : Act), wpQuiet P ops C K l a → wpQuiet P ops C K' l a
  | [], a, hq => h a hq
  | o :: l, a, hq => by
    unfold wpQuiet at hq ⊢
    split
    · rename_i hw
      rw [if_pos hw] at hq
      exact quiet_mono (fun a => wpQuiet_mono h l a) hq
    · rename_i hw
      rw [if_neg hw] at hq
      exact wpQuiet_mono h l _ hq
theorem wp_mid_k {id : Nat} {Q : Exit → Act → World → Prop} {a : Act} {w : World} {l : List Oper} (n : Nat) (om : Oper) (hom : l[n]? = some om) (hgd : om.guard = none) (hm : P.follows .mixedOrders = true) (hB : midB .any l.toArray n = true)
    (h : wpQuiet P l.toArray (fun w' => ∃ n, w' = w.drewN n) (fun a' => ∀ w', (∃ n, w' = w.drewN n) → ∀ K : Act → World → Prop, (∀ a2 w2, wpQuiet P l.toArray (fun x => ∃ n, x = w2.drewN n) (fun a3 => ∀ w3, (∃ n, w3 = w2.drewN n) → Q .normal a3 w3) (l.drop (n + 1)) a2 → K a2 w2) → om.wp P a' w' K Q) (l.take n) a) : (Code.region id l.toArray true).wp P Q a w :=
  wp_mid_drew n om hom hgd hm hB (wpQuiet_mono (fun _ h w' hw' => h w' hw' _ fun _ _ h => h) _ _ h)
end
end Go.Proofs.YtngbbefpphinjaaGreatDoor
