/- Parts: VtS. -/
import Derived.Test.YtgioaphnadncfaaDoorMg12
import Derived.Test.YtgioaphnadncfaaDoorMg19
/- Plain: a schema as text; how many lines that is. No condition. -/
namespace Go.Proofs.YtgioaphnadncfaaDoor
open Go

def typL (ty : Int) : List UInt8 := if ty = 1 then [105, 110, 116] else if ty = 2 then [98, 111, 111, 108] else if ty = 3 then [116, 101, 120, 116] else []
def sgnL (f : Fld) : List UInt8 := if f.key = true then [42] else if f.must = true then [33] else []
def fldT (f : Fld) : List UInt8 := f.name.data.toList ++ [58] ++ typL f.ty ++ sgnL f
def ofsW (k : Knd) : List (List UInt8) := if k.ofs.length = 0 then [] else [[111, 102], Lib.join (k.ofs.map (·.data.toList)) [44]]
def kndWords (k : Knd) : List (List UInt8) := [[107, 105, 110, 100], k.name.data.toList] ++ ofsW k ++ k.fields.map fldT
def kndT (k : Knd) : List UInt8 := Lib.join (kndWords k) [32] ++ [10]
def topL (b : Bnd) : List UInt8 := if 0 ≤ b.mx then Lib.itoa b.mx else [97, 110, 121]
def bndWords (b : Bnd) : List (List UInt8) := [[98, 111, 110, 100], b.name.data.toList, b.src.data.toList, b.dst.data.toList, Lib.itoa b.mn, topL b]
def bndT (b : Bnd) : List UInt8 := Lib.join (bndWords b) [32] ++ [10]
def scmT (s : Scm) : List UInt8 := s.kinds.flatMap kndT ++ s.bonds.flatMap bndT
theorem flds_ok : ∀ {l : List Fld} {p : Option Fld}, fldsE p l = 0 → ∀ f ∈ l, ∃ q, fldE q f = 0
  | [], _, _, f, hf => by cases hf
  | x :: r, p, h, f, hf => by
    rw [fldsE] at h
    split at h
    · rename_i h0
      rcases List.mem_cons.1 hf with rfl | hf
      · exact ⟨_, h0⟩
      · exact flds_ok h f hf
    · rename_i h0; exact absurd h h0
theorem flat_lit {l : List UInt8} (h : l.all (fun c => decide (c ≠ 10)) = true) : flatB l := fun c hc => of_decide_eq_true (List.all_eq_true.1 h c hc)
theorem flat_typ (ty : Int) : flatB (typL ty) := by
  unfold typL
  split
  · exact flat_lit (by decide)
  · split
    · exact flat_lit (by decide)
    · split
      · exact flat_lit (by decide)
      · exact .nil
theorem flat_sgn (f : Fld) : flatB (sgnL f) := by
  unfold sgnL
  split
  · exact flat_lit (by decide)
  · split
    · exact flat_lit (by decide)
    · exact .nil
/-- A kind that is found has a right name. -/
theorem found_name {l : List Knd} (h : Right l) {s : ByteArray} (hs : 0 ≤ kFind l s) : nameE s = 0 := by
  obtain ⟨i, k, _, h2, h3, _⟩ := idxI_nonneg hs
  have := (h.one i k h2).nm
  rw [of_decide_eq_true h3] at this
  exact this
theorem fld_parts {q : Option Fld} {f : Fld} (h : fldE q f = 0) : nameE f.name = 0 ∧ tyB f.ty = true := by
  unfold fldE at h
  split at h
  · rename_i h1
    split at h
    · rename_i h2; exact ⟨h1, h2⟩
    · cases h
  · rename_i h1; exact absurd h h1
theorem typ_len (ty : Int) : (typL ty).length ≤ 4 := by
  unfold typL
  split
  · show (3 : Nat) ≤ 4; omega
  · split
    · show (4 : Nat) ≤ 4; omega
    · split
      · show (4 : Nat) ≤ 4; omega
      · show (0 : Nat) ≤ 4; omega
theorem sgn_len (f : Fld) : (sgnL f).length ≤ 1 := by
  unfold sgnL
  split
  · show (1 : Nat) ≤ 1; omega
  · split
    · show (1 : Nat) ≤ 1; omega
    · show (0 : Nat) ≤ 1; omega
theorem flat_fld {q : Option Fld} {f : Fld} (h : fldE q f = 0) : flatB (fldT f) ∧ (fldT f).length ≤ 14 := by
  have h1 := (fld_parts h).1
  have k1 := name_len h1
  have k2 := typ_len f.ty
  have k3 := sgn_len f
  refine ⟨(((flat_name h1).append (flat_lit (by decide))).append (flat_typ _)).append (flat_sgn _), ?_⟩
  unfold fldT
  simp only [List.length_append, List.length_cons, List.length_nil]
  omega
/-- The words of a kind: none ends a line, and how long they are. -/
theorem knd_words {l : List Knd} (h : Right l) {k : Knd} (hk : k ∈ l) : (∀ x ∈ kndWords k, flatB x ∧ x.length ≤ 36) ∧ (kndWords k).length ≤ 12 := by
  obtain ⟨i, hi⟩ := List.mem_iff_getElem?.1 hk
  have ho := h.one i k hi
  have hn := ho.nm
  have k1 := name_len hn
  have hofs : ∀ x ∈ k.ofs.map (·.data.toList), flatB x ∧ x.length ≤ 8 := fun x hx => by
    obtain ⟨s, hs, rfl⟩ := List.mem_map.1 hx
    have h0 : 0 ≤ kFind (l.take i) s := ofsE_zero ho.ofs s hs
    obtain ⟨j, d, _, h2, h3, _⟩ := kFind_pos h0
    have hj : j < i := by have := (List.getElem?_eq_some_iff.1 h2).1; rw [List.length_take] at this; omega
    rw [List.getElem?_take, if_pos hj] at h2
    have hnm := (h.one j d h2).nm
    rw [h3] at hnm
    exact ⟨flat_name hnm, name_len hnm⟩
  have hjoin : flatB (Lib.join (k.ofs.map (·.data.toList)) [44]) := flat_join _ _ (fun x hx => (hofs x hx).1) (flat_lit (by decide))
  have hjl : (Lib.join (k.ofs.map (·.data.toList)) [44]).length ≤ 36 := by
    have h1 := join_len (k.ofs.map (·.data.toList)) [44] 8 fun x hx => (hofs x hx).2
    rw [List.length_map] at h1
    have h2 : k.ofs.length * (8 + ([44] : List UInt8).length) ≤ 4 * 9 := Nat.mul_le_mul ho.ofl (Nat.le_refl _)
    omega
  constructor
  · intro x hx
    unfold kndWords at hx
    rcases List.mem_append.1 hx with hx | hx
    · rcases List.mem_append.1 hx with hx | hx
      · rcases List.mem_cons.1 hx with rfl | hx
        · exact ⟨flat_lit (by decide), by show (4 : Nat) ≤ 36; omega⟩
        · rcases List.mem_cons.1 hx with rfl | hx
          · exact ⟨flat_name hn, by omega⟩
          · cases hx
      · unfold ofsW at hx
        split at hx
        · cases hx
        · rcases List.mem_cons.1 hx with rfl | hx
          · exact ⟨flat_lit (by decide), by show (2 : Nat) ≤ 36; omega⟩
          · rcases List.mem_cons.1 hx with rfl | hx
            · exact ⟨hjoin, hjl⟩
            · cases hx
    · obtain ⟨f, hf, rfl⟩ := List.mem_map.1 hx
      obtain ⟨q, hq⟩ := flds_ok ho.fls f hf
      obtain ⟨k2, k3⟩ := flat_fld hq
      exact ⟨k2, by omega⟩
  · have := ho.fll
    unfold kndWords ofsW
    split <;> simp <;> omega
theorem line_knd {l : List Knd} (h : Right l) {k : Knd} (hk : k ∈ l) : (kndT k).count 10 = 1 ∧ (kndT k).length ≤ 450 := by
  obtain ⟨h1, h2⟩ := knd_words h hk
  have hf : flatB (Lib.join (kndWords k) [32]) := flat_join _ _ (fun x hx => (h1 x hx).1) (flat_lit (by decide))
  have hl := join_len (kndWords k) [32] 36 fun x hx => (h1 x hx).2
  have h3 : (kndWords k).length * (36 + ([32] : List UInt8).length) ≤ 12 * 37 := Nat.mul_le_mul h2 (Nat.le_refl _)
  unfold kndT
  constructor
  · rw [List.count_append, hf.count]; rfl
  · rw [List.length_append]
    have : ([10] : List UInt8).length = 1 := rfl
    omega
theorem flat_top {b : Bnd} (h : ¬ rngB b) : flatB (topL b) ∧ (topL b).length ≤ 10 := by
  unfold topL
  unfold rngB at h
  split
  · exact ⟨flat_itoa _, (itoa_small (by omega) (by omega)).2⟩
  · exact ⟨flat_lit (by decide), by show (3 : Nat) ≤ 10; omega⟩
theorem bnd_words {s : Scm} (h : ScmOk s) {b : Bnd} (hb : b ∈ s.bonds) : ∀ x ∈ bndWords b, flatB x ∧ x.length ≤ 10 := by
  obtain ⟨i, hi⟩ := List.mem_iff_getElem?.1 hb
  have ho := h.b i b hi
  have hs := found_name h.r ho.src
  have hd := found_name h.r ho.dst
  have hr := ho.rng
  have hm : (Lib.itoa b.mn).length ≤ 10 := by
    unfold rngB at hr
    exact (itoa_small (by omega) (by omega)).2
  intro x hx
  unfold bndWords at hx
  simp only [List.mem_cons, List.not_mem_nil, or_false] at hx
  rcases hx with rfl | rfl | rfl | rfl | rfl | rfl
  · exact ⟨flat_lit (by decide), by show (4 : Nat) ≤ 10; omega⟩
  · exact ⟨flat_name ho.nm, by have := name_len ho.nm; omega⟩
  · exact ⟨flat_name hs, by have := name_len hs; omega⟩
  · exact ⟨flat_name hd, by have := name_len hd; omega⟩
  · exact ⟨flat_itoa _, hm⟩
  · exact flat_top hr
theorem line_bnd {s : Scm} (h : ScmOk s) {b : Bnd} (hb : b ∈ s.bonds) : (bndT b).count 10 = 1 ∧ (bndT b).length ≤ 450 := by
  have h1 := bnd_words h hb
  have hf : flatB (Lib.join (bndWords b) [32]) := flat_join _ _ (fun x hx => (h1 x hx).1) (flat_lit (by decide))
  have hl := join_len (bndWords b) [32] 10 fun x hx => (h1 x hx).2
  have h3 : (bndWords b).length * (10 + ([32] : List UInt8).length) = 66 := rfl
  unfold bndT
  constructor
  · rw [List.count_append, hf.count]; rfl
  · rw [List.length_append]
    have : ([10] : List UInt8).length = 1 := rfl
    omega
/-- A line for each. -/
theorem scm_lines {s : Scm} (h : ScmOk s) : (scmT s).count 10 = s.kinds.length + s.bonds.length := by
  unfold scmT
  rw [List.count_append, lines_of fun k hk => (line_knd h.r hk).1, lines_of fun b hb => (line_bnd h hb).1]
end Go.Proofs.YtgioaphnadncfaaDoor
