/- Parts: OpenA. -/
import Derived.Test.YtakidgndipnciaaDoorMg01
import Derived.Test.YtakidgndipnciaaDoorRows
import Derived.Deep.Slices
import Derived.Lib.SmallJoins
import Derived.JoinedCond
import Derived.Carry
/- Plain: what comes in, read as data of bulk at most 1048576, lies in memory as the contracts want it. -/
namespace Go.Proofs.YtakidgndipnciaaDoor
open Go Go.RowKit Go.Deep Go.ChangeShapes Go.WideShapes Go.Joins

/-! ### Bulk -/
section
variable {H : Type}
theorem bulk_part {d : DataW H} {l : List (DataW H)} (h : d ∈ l) : Rows.uptoBulk d ≤ Rows.uptoBulkAll l := by
  induction l with
  | nil => cases h
  | cons x r ih =>
    simp only [Rows.uptoBulkAll]
    cases List.mem_cons.1 h with
    | inl e => subst e; omega
    | inr e => have := ih e; omega
theorem bulk_small {ds : List (DataW H)} (hk : Rows.uptoSmall H ds = true) {d : DataW H} (h : d ∈ ds) : Rows.uptoBulk d ≤ 1048576 := by
  have h1 : Rows.uptoBulkAll ds ≤ 1048576 := of_decide_eq_true hk
  have := bulk_part h
  omega
end

/-- Data of type t lie as L says. -/
def Opens {D : Type} (P : Program) (L : Lay D) (t : TypeId) : Prop :=
  ∀ (H : Type) (enc : TypeId × Value → H) (w : World) (base : Nat) (spare : Nat → Bool) (held : Bool) (fuel : Nat) (cs : List Value) (x : DataW H × List MemPlace),
    DataW.trod enc P w base spare held fuel t cs = some x → Rows.uptoBulk x.1 ≤ 1048576 → ∃ d, L.cells w d cs

theorem add_off (b o n : Nat) : (⟨b, o, none⟩ : Addr).add n = ⟨b, o + n, none⟩ := by
  unfold Addr.add
  split
  · rename_i h; subst h; rfl
  · rfl

theorem rows_of {D : Type} {L : Lay D} {w : World} {a : Addr} {len : Nat} (h : ∀ i, i < len → ∃ d cs, L.cells w d cs ∧ ∀ j u, cs[j]? = some u → w.cell? ((a.add (i * L.sz)).add j) = some u) :
    ∀ k, k ≤ len → ∃ l : List D, l.length = k ∧ ∀ i d, l[i]? = some d → ∃ cs, L.cells w d cs ∧ ∀ j u, cs[j]? = some u → w.cell? ((a.add (i * L.sz)).add j) = some u
  | 0, _ => ⟨[], rfl, fun i d hi => by simp at hi⟩
  | k + 1, hk => by
    obtain ⟨l, hl, hall⟩ := rows_of h k (by omega)
    obtain ⟨d, cs, hc, hcell⟩ := h k (by omega)
    refine ⟨l ++ [d], by simp [hl], fun i x hi => ?_⟩
    by_cases hik : i < l.length
    · rw [List.getElem?_append_left hik] at hi
      exact hall i x hi
    · rw [List.getElem?_append_right (by omega)] at hi
      have e1 : i - l.length = 0 := by
        have := (List.getElem?_eq_some_iff.1 hi).1
        simp at this; omega
      rw [e1] at hi
      simp at hi
      subst hi
      obtain rfl : i = k := by omega
      exact ⟨cs, hc, hcell⟩

theorem Opens.slice {D : Type} {P : Program} {L : Lay D} {t e : TypeId} (ht : P.underlying t = some (.slice e)) (hC : P.cellsOf e = L.sz) (hs : 0 < L.sz) (h : Opens P L e) : Opens P (slL L) t := by
  intro H enc w base spare held fuel cs x hx hb
  rcases open_slice ht hx with ⟨rfl, rfl⟩ | ⟨a, len, cap, m, n, D', Pl, rfl, hbb, hl, hm, hmm, rfl, hi⟩
  · exact ⟨[], _, rfl, Sl.nil 0 (by unfold maxLen; omega) none⟩
  · have hm' : len ≤ m := by rw [hmm]; split <;> omega
    have hbA : Rows.uptoBulkAll ((List.range len).map D') ≤ 1048576 := by
      simp only [Rows.uptoBulk] at hb
      omega
    have each : ∀ i, i < len → ∃ d cs, L.cells w d cs ∧ ∀ j u, cs[j]? = some u → w.cell? ((a.add (i * L.sz)).add j) = some u := fun i hil => by
      obtain ⟨cs', hc, ht'⟩ := hi i (by omega)
      rw [hC] at hc
      obtain ⟨_, hcl, hat⟩ := World.cells?_some hc
      have hbi : Rows.uptoBulk (D' i) ≤ 1048576 := by
        have := bulk_part (d := D' i) (l := (List.range len).map D') (List.mem_map.2 ⟨i, List.mem_range.2 hil, rfl⟩)
        omega
      obtain ⟨d, hd⟩ := h H enc w base spare held n cs' _ ht' hbi
      refine ⟨d, cs', hd, fun j u hj => ?_⟩
      have hjl : j < L.sz := by have := (List.getElem?_eq_some_iff.1 hj).1; omega
      rw [hat j hjl, hj]
    by_cases h0 : len = 0
    · subst h0
      exact ⟨[], _, rfl, Sl.nil cap hm (some a)⟩
    · obtain ⟨b, o, spot⟩ := a
      have hspot : spot = none := by
        obtain ⟨d, cs', hd, hcell⟩ := each 0 (by omega)
        have hl0 := L.len hd
        have h1 := hcell 0 _ (List.getElem?_eq_getElem (by omega))
        simpa [Addr.add] using World.cell?_spot h1
      subst hspot
      obtain ⟨l, hll, hall⟩ := rows_of each len (Nat.le_refl _)
      subst hll
      refine ⟨l, _, rfl, _, cap, rfl, hl, hm, fun i d hid => ?_⟩
      obtain ⟨cs', hd, hcell⟩ := hall i d hid
      refine ⟨b, o, cs', rfl, hd, fun j u hj => ?_⟩
      have := hcell j u hj
      rw [add_off, add_off, Nat.add_assoc] at this
      exact this

theorem opens_str {P : Program} {t : TypeId} (ht : P.underlying t = some .string) : Opens P strL t := by
  intro H enc w base spare held fuel cs x hx hb
  obtain ⟨s, rfl, rfl, hw⟩ := DataW.trod_string ht hx
  refine ⟨s, rfl, ?_⟩
  simp only [Rows.uptoBulk, Array.length_toList] at hb
  show s.data.size ≤ 1048576
  omega
def boolL : Lay Bool := flatL 1 (fun _ => True) (fun b => [.bool b]) (fun _ => rfl)
theorem opens_bool {P : Program} {t : TypeId} (ht : P.underlying t = some .bool) : Opens P boolL t := by
  intro H enc w base spare held fuel cs x hx hb
  obtain ⟨b, rfl, rfl⟩ := DataW.trod_bool ht hx
  exact ⟨b, rfl, trivial⟩
end Go.Proofs.YtakidgndipnciaaDoor
