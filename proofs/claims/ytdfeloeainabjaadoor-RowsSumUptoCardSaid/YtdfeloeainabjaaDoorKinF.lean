/- Plain: a kind's fields: all of its kin's, sorted by name; two of one name that are not the same: none. -/
import Derived.Test.YtdfeloeainabjaaDoorKinE
import Derived.Test.YtdfeloeainabjaaDoorCmp
namespace Go.Proofs.YtdfeloeainabjaaDoor

def fldC (name : ByteArray) (f : Fld) : Int := cmpS f.name name
def fldLt (a b : Fld) : Bool := decide (cmpS a.name b.name < 0)
/-- One more field. -/
def putF (l : List Fld) (f : Fld) : Option (List Fld) :=
  if eqAt (fldC f.name) l (lowI (fldC f.name) l) then (if l[lowI (fldC f.name) l]? = some f then some l else none)
  else some (l.take (lowI (fldC f.name) l) ++ f :: l.drop (lowI (fldC f.name) l))
theorem fldC_mono (name : ByteArray) : ∀ a b, fldLt a b = true → 0 ≤ fldC name a → 0 ≤ fldC name b := by
  intro a b h h1
  unfold fldLt at h
  unfold fldC at h1 ⊢
  simp at h
  by_cases hb : cmpS b.name name < 0
  · have := cmpS_trans h hb
    omega
  · omega
/-- Strictly rising by name. -/
def Rise (l : List Fld) : Prop := l.Pairwise fun a b => cmpS a.name b.name < 0
theorem rise_chain {l : List Fld} (h : Rise l) : chain fldLt l = true := by
  rw [chain_iff]
  intro i a b ha hb
  obtain ⟨h1, rfl⟩ := List.getElem?_eq_some_iff.1 ha
  obtain ⟨h2, rfl⟩ := List.getElem?_eq_some_iff.1 hb
  have := List.pairwise_iff_getElem.1 h i (i + 1) h1 h2 (by omega)
  unfold fldLt; simpa using this
theorem putF_rise {l l' : List Fld} {f : Fld} (h : Rise l) (hp : putF l f = some l') : Rise l' := by
  unfold putF at hp
  have hc := rise_chain h
  generalize hk : lowI (fldC f.name) l = k at hp
  have h1 : ∀ i d, i < k → l[i]? = some d → cmpS d.name f.name < 0 := fun i d hi hd => low_lt (c := fldC f.name) (by rw [hk]; exact hi) hd
  have h2 : ∀ i d, k ≤ i → l[i]? = some d → 0 ≤ cmpS d.name f.name := fun i d hi hd => low_ge (c := fldC f.name) hc (fldC_mono f.name) (by rw [hk]; exact hi) hd
  split at hp
  · split at hp
    · injection hp with e; subst e; exact h
    · cases hp
  · rename_i he
    injection hp with e; subst e
    have h3 : ∀ i d, k ≤ i → l[i]? = some d → 0 < cmpS d.name f.name := by
      intro i d hi hd
      have hge := h2 i d hi hd
      by_cases h0 : cmpS d.name f.name = 0
      · exfalso
        by_cases hik : i = k
        · subst hik
          unfold eqAt at he
          rw [hd] at he
          simp [fldC, h0] at he
        · obtain ⟨hl, rfl⟩ := List.getElem?_eq_some_iff.1 hd
          have hkl : k < l.length := by omega
          have h4 := List.pairwise_iff_getElem.1 h k i hkl hl (by omega)
          have h5 := h2 k l[k] (Nat.le_refl _) (List.getElem?_eq_getElem hkl)
          rw [cmpS_zero] at h0
          rw [h0] at h4
          omega
      · omega
    unfold Rise
    rw [List.pairwise_append]
    refine ⟨h.sublist (List.take_sublist _ _), ?_, ?_⟩
    · rw [List.pairwise_cons]
      refine ⟨fun b hb => ?_, h.sublist (List.drop_sublist _ _)⟩
      obtain ⟨i, hi⟩ := List.mem_iff_getElem?.1 hb
      rw [List.getElem?_drop] at hi
      have := h3 _ _ (by omega) hi
      rw [cmpS_anti]; omega
    · intro a ha b hb
      obtain ⟨i, hi⟩ := List.mem_iff_getElem?.1 ha
      rw [List.getElem?_take] at hi
      split at hi
      · rename_i hik
        have hal := h1 i a hik hi
        rcases List.mem_cons.1 hb with rfl | hb
        · exact hal
        · obtain ⟨j, hj⟩ := List.mem_iff_getElem?.1 hb
          rw [List.getElem?_drop] at hj
          have := h3 _ _ (by omega) hj
          exact cmpS_trans hal (by rw [cmpS_anti]; omega)
      · cases hi
/-- All fields of some kinds, one behind the other. -/
def allF (fs : List Fld) : Option (List Fld) := fs.foldlM putF []
def fieldsOf (l : List Knd) (name : ByteArray) : Option (List Fld) :=
  allF ((kinL l name).flatMap fun s => match l.find? (fun k => decide (k.name = s)) with | some k => k.fields | none => [])
theorem mem_putF {l l' : List Fld} {f : Fld} (hp : putF l f = some l') : ∀ x, x ∈ l' ↔ x ∈ l ∨ x = f := by
  unfold putF at hp
  intro x
  split at hp
  · split at hp
    · rename_i hf
      injection hp with e; subst e
      constructor
      · exact .inl
      · rintro (h | rfl)
        · exact h
        · exact List.mem_of_getElem? hf
    · cases hp
  · injection hp with e; subst e
    generalize lowI (fldC f.name) l = k
    have : x ∈ l ↔ x ∈ l.take k ∨ x ∈ l.drop k := by rw [← List.mem_append, List.take_append_drop]
    rw [this, List.mem_append, List.mem_cons]
    constructor
    · rintro (h | h | h)
      · exact .inl (.inl h)
      · exact .inr h
      · exact .inl (.inr h)
    · rintro ((h | h) | h)
      · exact .inl h
      · exact .inr (.inr h)
      · exact .inr (.inl h)
end Go.Proofs.YtdfeloeainabjaaDoor
