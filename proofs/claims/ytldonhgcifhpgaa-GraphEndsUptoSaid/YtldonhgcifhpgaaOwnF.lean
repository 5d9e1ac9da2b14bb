/- Plain: rows of flat structs that a call owns: they read as the list; one more in between. No condition. -/
import Derived.Test.YtldonhgcifhpgaaOwn
namespace Go.Proofs.Ytldonhgcifhpgaa
open Go.RowKit

section
variable {D : Type} {n : Nat} {enc : D → List Value}
theorem flat_len (hn : ∀ d, (enc d).length = n) : ∀ (l : List D), (l.flatMap enc).length = l.length * n
  | [] => by simp
  | a :: l => by rw [List.flatMap_cons, List.length_append, hn, flat_len hn l, List.length_cons, Nat.add_mul]; omega
theorem flat_get (hn : ∀ d, (enc d).length = n) : ∀ {l : List D} {i j : Nat} {d : D} {u : Value}, l[i]? = some d → (enc d)[j]? = some u → (l.flatMap enc)[i * n + j]? = some u
  | [], i, j, d, u, h, _ => by simp at h
  | a :: l, 0, j, d, u, h, hu => by
    simp at h; subst h
    rw [List.flatMap_cons, Nat.zero_mul, Nat.zero_add, List.getElem?_append_left (List.getElem?_eq_some_iff.1 hu).1]; exact hu
  | a :: l, i + 1, j, d, u, h, hu => by
    rw [List.flatMap_cons, List.getElem?_append_right (by rw [hn, Nat.add_mul]; omega), hn]
    have : (i + 1) * n + j - n = i * n + j := by rw [Nat.add_mul]; omega
    rw [this]
    exact flat_get hn (by simpa using h) hu
theorem flat_take (hn : ∀ d, (enc d).length = n) (l : List D) (i : Nat) (hi : i ≤ l.length) : (l.flatMap enc).take (i * n) = (l.take i).flatMap enc := by
  conv => lhs; rw [← List.take_append_drop i l]
  rw [List.flatMap_append, List.take_append_of_le_length (by rw [flat_len hn]; simp [Nat.min_eq_left hi]), List.take_of_length_le (by rw [flat_len hn]; simp [Nat.min_eq_left hi])]
theorem flat_drop (hn : ∀ d, (enc d).length = n) (l : List D) (i : Nat) (hi : i ≤ l.length) : (l.flatMap enc).drop (i * n) = (l.drop i).flatMap enc := by
  conv => lhs; rw [← List.take_append_drop i l]
  rw [List.flatMap_append, List.drop_append_of_le_length (by rw [flat_len hn]; simp [Nat.min_eq_left hi]), List.drop_of_length_le (by rw [flat_len hn]; simp [Nat.min_eq_left hi]), List.nil_append]
theorem flat_insert (hn : ∀ d, (enc d).length = n) (l : List D) (i : Nat) (hi : i ≤ l.length) (d : D) :
    (l.flatMap enc).take (i * n) ++ enc d ++ (l.flatMap enc).drop (i * n) = (l.take i ++ d :: l.drop i).flatMap enc := by
  rw [flat_take hn l i hi, flat_drop hn l i hi, List.flatMap_append, List.flatMap_cons, List.append_assoc]
theorem flat_snoc (l : List D) (d : D) : l.flatMap enc ++ enc d = (l ++ [d]).flatMap enc := by simp
theorem Own.flat {w : World} {B : Nat} {e : TypeId} {v : Value} {l : List D} {ok : D → Prop} (hn : ∀ d, (enc d).length = n) (hl : ∀ x ∈ l, ok x) (h : Own w B e n v l.length (l.flatMap enc)) : Sl (flatL n ok enc hn) w v l := by
  obtain ⟨A, c, rfl, h1, h2⟩ := h.form
  refine ⟨A, c, rfl, h1, h2, fun i d hi => ?_⟩
  obtain ⟨g, o, c', hv, _, _⟩ := h.addr (len_pos hi)
  injection hv with hA _ hc
  subst hA; subst hc
  exact ⟨g, o, _, rfl, ⟨rfl, hl d (List.mem_of_getElem? hi)⟩, fun j u hj => h.cell rfl (flat_get hn hi hj)⟩
theorem sl_block {W : World} {b : Nat} {t : TypeId} {fr : Nat × Nat} {ok : D → Prop} (hn : ∀ d, (enc d).length = n) (l : List D) (hl : ∀ x ∈ l, ok x) (c : Nat) (h1 : l.length ≤ c) (h2 : c ≤ maxLen) (h : W.heap[b]? = some (.cells (l.flatMap enc).toArray t fr)) : Sl (flatL n ok enc hn) W (.slice (some ⟨b, 0, none⟩) l.length c) l :=
  ⟨_, c, rfl, h1, h2, fun i d hi => ⟨b, 0, _, rfl, ⟨rfl, hl d (List.mem_of_getElem? hi)⟩, fun j u hj => by
    have hg := flat_get hn hi hj
    rw [cell_of_row W b _ _ t fr h, Nat.zero_add, List.getElem?_toArray]
    exact hg⟩⟩
end
theorem sl_strs {W : World} {b : Nat} {t : TypeId} (l : List ByteArray) (hl : ∀ x ∈ l, Sm x) (hm : l.length ≤ maxLen) (h : W.heap[b]? = some (.cells (l.map Value.string).toArray t (0, 0))) : Sl strL W (.slice (some ⟨b, 0, none⟩) l.length l.length) l :=
  sl_block (t := t) (fr := (0, 0)) (enc := fun s => [.string s]) (fun _ => rfl) l hl _ (Nat.le_refl _) hm (by rw [h, show l.flatMap (fun s => [Value.string s]) = l.map Value.string from (List.map_eq_flatMap ..).symm])
theorem Fld.enc_len (d : Fld) : d.enc.length = 4 := rfl
theorem Prp.enc_len (d : Prp) : d.enc.length = 4 := rfl
theorem Tie.enc_len (d : Tie) : d.enc.length = 3 := rfl
theorem Bnd.enc_len (d : Bnd) : d.enc.length = 5 := rfl
theorem Own.flds {w : World} {B : Nat} {e : TypeId} {v : Value} {l : List Fld} (h : Own w B e 4 v l.length (l.flatMap Fld.enc)) (hl : ∀ x ∈ l, x.ok) : Sl fldL w v l := h.flat Fld.enc_len hl
theorem Own.prps {w : World} {B : Nat} {e : TypeId} {v : Value} {l : List Prp} (h : Own w B e 4 v l.length (l.flatMap Prp.enc)) (hl : ∀ x ∈ l, x.ok) : Sl prpL w v l := h.flat Prp.enc_len hl
theorem Own.ties {w : World} {B : Nat} {e : TypeId} {v : Value} {l : List Tie} (h : Own w B e 3 v l.length (l.flatMap Tie.enc)) (hl : ∀ x ∈ l, x.ok) : Sl tieL w v l := h.flat Tie.enc_len hl
theorem Own.bnds {w : World} {B : Nat} {e : TypeId} {v : Value} {l : List Bnd} (h : Own w B e 5 v l.length (l.flatMap Bnd.enc)) (hl : ∀ x ∈ l, x.ok) : Sl bndL w v l := h.flat Bnd.enc_len hl
theorem oneCell_flat {D : Type} {enc : D → List Value} (h1 : ∀ d, ∀ u ∈ enc d, u.oneCell' = true) (l : List D) : ∀ u ∈ l.flatMap enc, u.oneCell' = true := by
  intro u hu
  obtain ⟨d, _, hd⟩ := List.mem_flatMap.1 hu
  exact h1 d u hd
theorem Fld.enc_one (d : Fld) : ∀ u ∈ d.enc, u.oneCell' = true := by intro u hu; simp [Fld.enc] at hu; rcases hu with rfl | rfl | rfl | rfl <;> rfl
theorem Prp.enc_one (d : Prp) : ∀ u ∈ d.enc, u.oneCell' = true := by intro u hu; simp [Prp.enc] at hu; rcases hu with rfl | rfl | rfl | rfl <;> rfl
theorem Tie.enc_one (d : Tie) : ∀ u ∈ d.enc, u.oneCell' = true := by intro u hu; simp [Tie.enc] at hu; rcases hu with rfl | rfl | rfl <;> rfl
theorem Bnd.enc_one (d : Bnd) : ∀ u ∈ d.enc, u.oneCell' = true := by intro u hu; simp [Bnd.enc] at hu; rcases hu with rfl | rfl | rfl | rfl | rfl <;> rfl
end Go.Proofs.Ytldonhgcifhpgaa
