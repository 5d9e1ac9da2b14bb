/- Contracts: graph.Find and record.Find: where a node of a number, or a property of a name, stands in a list that rises. -/
import Derived.Test.YtldonhgcifhpgaaFindA
namespace Go.Proofs.Ytldonhgcifhpgaa
open Go.RowKit

/-- The first place at which c is not below 0. -/
def lowI {D : Type} (c : D → Int) (l : List D) : Nat := l.findIdx (fun d => decide (0 ≤ c d))
theorem lowI_le {D : Type} (c : D → Int) (l : List D) : lowI c l ≤ l.length := List.findIdx_le_length
theorem low_lt {D : Type} {c : D → Int} {l : List D} {i : Nat} {d : D} (h : i < lowI c l) (hi : l[i]? = some d) : c d < 0 := by
  obtain ⟨hl, rfl⟩ := List.getElem?_eq_some_iff.1 hi
  have := List.not_of_lt_findIdx h
  simp at this
  omega
theorem low_ge {D : Type} {R : D → D → Bool} {c : D → Int} {l : List D} (hc : chain R l = true) (mono : ∀ a b, R a b = true → 0 ≤ c a → 0 ≤ c b) :
    ∀ {i : Nat} {d : D}, lowI c l ≤ i → l[i]? = some d → 0 ≤ c d := by
  intro i
  induction i with
  | zero =>
    intro d h hi
    obtain ⟨hl, rfl⟩ := List.getElem?_eq_some_iff.1 hi
    have h0 : lowI c l = 0 := by omega
    have := List.findIdx_getElem (xs := l) (p := fun d => decide (0 ≤ c d)) (w := by show lowI c l < _; omega)
    simp only [decide_eq_true_eq] at this
    have e : List.findIdx (fun d => decide (0 ≤ c d)) l = 0 := h0
    simp only [e] at this
    exact this
  | succ i ih =>
    intro d h hi
    rcases Nat.lt_or_ge i (lowI c l) with h1 | h1
    · have h0 : lowI c l = i + 1 := by omega
      obtain ⟨hl, rfl⟩ := List.getElem?_eq_some_iff.1 hi
      have := List.findIdx_getElem (xs := l) (p := fun d => decide (0 ≤ c d)) (w := by show lowI c l < _; omega)
      simp only [decide_eq_true_eq] at this
      have e : List.findIdx (fun d => decide (0 ≤ c d)) l = i + 1 := h0
      simp only [e] at this
      exact this
    · have hl : i < l.length := by have := (List.getElem?_eq_some_iff.1 hi).1; omega
      have h2 := ih (d := l[i]) h1 (List.getElem?_eq_getElem hl)
      exact mono _ _ (chain_iff.1 hc i _ _ (List.getElem?_eq_getElem hl) hi) h2

/-! ### Nodes by number -/
def nodLt (a b : Nod) : Bool := decide (a.id < b.id)
def nodC (id : Int) (n : Nod) : Int := cmpI n.id id
def fpos (l : List Nod) (id : Int) : Nat := lowI (nodC id) l
def fhas (l : List Nod) (id : Int) : Bool := eqAt (nodC id) l (fpos l id)
theorem cmpI_neg {a b : Int} : cmpI a b < 0 ↔ a < b := by unfold cmpI; split <;> (try split) <;> omega
theorem cmpI_zero {a b : Int} : cmpI a b = 0 ↔ a = b := by unfold cmpI; split <;> (try split) <;> omega
theorem nodC_mono (id : Int) : ∀ a b, nodLt a b = true → 0 ≤ nodC id a → 0 ≤ nodC id b := by
  intro a b h h1
  unfold nodLt at h
  simp at h
  unfold nodC at h1 ⊢
  have := @cmpI_neg a.id id
  have := @cmpI_neg b.id id
  omega

theorem find1_any (d : Nod) (id : Int) (u : Value) (w : World) (hu : nodV w d u) :
    Calls Try.prog 156 #[u, .int .i64 id] w fun e w' => e = .returned (.int .i64 (nodC id d)) ∧ Below w.heap.size w w' := by
  obtain ⟨v, rfl, h1, h2, h3⟩ := hu
  obtain ⟨A, c, rfl, _, _⟩ := h3.form
  have HE : Hid (nodC id d = cmpI d.id id) := rfl
  go_enter Try.func156, Try.ntmps156
  go_wp2_with (go_at_call 85; refine (cmp_any _ _ _).mono ?_; rintro e w' ⟨rfl, rfl⟩)
  go_ret
  exact ⟨by rw [HE.out]; rfl, (Below.refl _ _).alloc (Nat.le_refl _) _⟩

theorem find_any (g : Grf) (vn vt : Value) (w : World) (hg : GrfR w vn vt g) (id : Int) (hc : chain nodLt g.nodes = true) (hl : g.nodes.length ≤ 1000) :
    Calls Try.prog 133 #[.agg #[vn, vt], .int .i64 id] w fun e w' => e = .returned (.tuple #[.int .i64 (fpos g.nodes id), .bool (fhas g.nodes id)]) ∧ Below w.heap.size w w' := by
  obtain ⟨hn, ht⟩ := hg
  obtain ⟨A, c, rfl, _, _⟩ := hn.form
  obtain ⟨A', c', rfl, _, _⟩ := ht.form
  have hb0 : Below w.heap.size w (w.alloc (.cells #[.slice A g.nodes.length c, .slice A' g.ties.length c'] 70)) := (Below.refl _ _).alloc (Nat.le_refl _) _
  have hcall := bs_nod 156 #[] (by intro args w; kernel_rfl) (.int .i64 id) (nodC id) g.nodes _ _ (hn.below hb0) (fun x u wx _ hu => find1_any x id u wx hu) (fpos g.nodes id) hl (lowI_le _ _)
    (fun i d h hi => low_lt h hi) (fun i d h hi => low_ge hc (nodC_mono id) h hi)
  have HE : Hid (fhas g.nodes id = eqAt (nodC id) g.nodes (fpos g.nodes id)) := rfl
  clear hn ht hc
  generalize eqAt (nodC id) g.nodes (fpos g.nodes id) = B at hcall HE
  generalize fpos g.nodes id = K at hcall HE
  go_enter Try.func133, Try.ntmps133
  go_wp2_with (go_at_call 155; refine hcall.mono ?_; rintro e w' ⟨rfl, hb⟩)
  go_ret2
  exact ⟨by rw [HE.out]; rfl, hb0.trans (hb.mono hb0.size)⟩

/-! ### Properties by name -/
def prpLt (a b : Prp) : Bool := ltS a.name b.name
def prpC (nm : ByteArray) (p : Prp) : Int := cmpS p.name nm
def rpos (l : List Prp) (nm : ByteArray) : Nat := lowI (prpC nm) l
def rhas (l : List Prp) (nm : ByteArray) : Bool := eqAt (prpC nm) l (rpos l nm)
end Go.Proofs.Ytldonhgcifhpgaa
