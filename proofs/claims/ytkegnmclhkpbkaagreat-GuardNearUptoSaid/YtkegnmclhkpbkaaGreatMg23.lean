/- Parts: DiffP, DwK, DwA, DwB, GnQ, GdA, EndB. -/
import Derived.Test.YtkegnmclhkpbkaaGreatMg22
import Derived.Test.YtkegnmclhkpbkaaGreatMg17
import Derived.Test.YtkegnmclhkpbkaaGreatMg05
import Derived.Test.YtkegnmclhkpbkaaGreatMg20
import Derived.Test.YtkegnmclhkpbkaaGreatMg19
import Derived.Test.YtkegnmclhkpbkaaGreatMg16
/- Plain: what of a schema is not in another one just so; which one is as wide. No condition. -/
namespace Go.Proofs.YtkegnmclhkpbkaaGreat

def eqK (a b : Knd) : Bool := decide (a.ofs = b.ofs) && decide (a.fields = b.fields)
def lostK (l : List Knd) (k : Knd) : Bool := match l[(kFind l k.name).toNat]? with | some d => decide (kFind l k.name < 0) || !eqK k d | none => true
def lostB (l : List Bnd) (x : Bnd) : Bool := !(l.any fun y => decide (x = y))
def losesL (a b : Scm) : List ByteArray := (a.kinds.filter (lostK b.kinds)).map (·.name) ++ (a.bonds.filter (lostB b.bonds)).map (·.name)
def bothE (a b : Scm) : Int := if (scmE a).2 = 0 then (scmE b).2 else (scmE a).2
def losesR (a b : Scm) : List ByteArray := if bothE a b = 0 then losesL a b else []
def fFind (l : List Fld) (nm : ByteArray) : Int := idxI (fun f => decide (f.name = nm)) l
def okF (b : List Fld) (f : Fld) : Bool := match b[(fFind b f.name).toNat]? with | some d => !(decide (fFind b f.name < 0)) && decide (d.ty = f.ty) && !(d.must && !f.must) && !(d.key && !f.key) | none => false
def fieldsW (a b : List Fld) : Bool := a.all (okF b) && !(b.any fun f => f.must && decide (fFind a f.name < 0))
def kindW (l : List Knd) (k : Knd) : Bool := match l[(kFind l k.name).toNat]? with | some d => !(decide (kFind l k.name < 0)) && decide (k.ofs = d.ofs) && fieldsW k.fields d.fields | none => false
def bondW1 (a b : Bnd) : Bool := decide (a.src = b.src) && decide (a.dst = b.dst) && decide (b.mn ≤ a.mn) && (decide (b.mx = -1) || (!decide (a.mx = -1) && decide (a.mx ≤ b.mx)))
def bondW (l : List Bnd) (x : Bnd) : Bool := match l[(bFind l x.name).toNat]? with | some d => !(decide (bFind l x.name < 0)) && bondW1 x d | none => false
def widerB (a b : Scm) : Bool := a.kinds.all (kindW b.kinds) && a.bonds.all (bondW b.bonds) && !(b.bonds.any fun x => decide (bFind a.bonds x.name < 0) && decide (0 < x.mn))
def widerR (a b : Scm) : Bool := if bothE a b = 0 then widerB a b else false

theorem kFind_self {l : List Knd} (hw : Wf l) {i : Nat} {k : Knd} (hk : l[i]? = some k) : kFind l k.name = i := by
  exact idxI_hit (fun j x hj hx => by simpa using (hw i k hk).1 j x hj hx) hk (by simp)
/-- No two bonds of one name. -/
def BDist (l : List Bnd) : Prop := ∀ (i j : Nat) a b, j < i → l[i]? = some a → l[j]? = some b → b.name ≠ a.name
theorem ScmOk.bdist {s : Scm} (h : ScmOk s) : BDist s.bonds := fun i j a b hj hi hb =>
  bFind_neg (h.b i a hi).new b (List.mem_of_getElem? (by rw [List.getElem?_take, if_pos hj]; exact hb))
theorem bFind_self {l : List Bnd} (hd : BDist l) {i : Nat} {k : Bnd} (hk : l[i]? = some k) : bFind l k.name = i :=
  idxI_hit (fun j x hj hx => by simpa using hd i j k x hj hk hx) hk (by simp)
theorem loses_self {s : Scm} (h : ScmOk s) : losesL s s = [] := by
  unfold losesL
  have h1 : s.kinds.filter (lostK s.kinds) = [] := by
    rw [List.filter_eq_nil_iff]
    intro k hk
    obtain ⟨i, hi⟩ := List.mem_iff_getElem?.1 hk
    unfold lostK
    rw [kFind_self h.r.wf hi, Int.toNat_natCast, hi]
    simp [eqK]
  have h2 : s.bonds.filter (lostB s.bonds) = [] := by
    rw [List.filter_eq_nil_iff]
    intro b hb
    unfold lostB
    have : (s.bonds.any fun y => decide (b = y)) = true := List.any_eq_true.2 ⟨b, hb, by simp⟩
    simp [this]
  rw [h1, h2]; rfl
/-- A bond that is dropped is lost, and it is less wide. -/
theorem drop_lost {s : Scm} {nm : ByteArray} (h : cdoE s ⟨6, nm, kz, bz, fz, vz, .empty⟩ = 0) : nm ∈ losesL s (cdoS s ⟨6, nm, kz, bz, fz, vz, .empty⟩) ∧ widerB s (cdoS s ⟨6, nm, kz, bz, fz, vz, .empty⟩) = false := by
  obtain ⟨a1, a2, a3⟩ := cdoE_zero h
  have hok := scmE_zero a1
  have hd := hok.bdist
  have hE : bondsE s ⟨6, nm, kz, bz, fz, vz, .empty⟩ = 0 := by
    have e : cgE s ⟨6, nm, kz, bz, fz, vz, .empty⟩ = bondsE s ⟨6, nm, kz, bz, fz, vz, .empty⟩ := by
      unfold cgE
      rw [if_neg (by simp), if_neg (by simp), if_neg (by simp), if_pos (.inl rfl)]
    rw [← e]; exact a2
  have hn : 0 ≤ bFind s.bonds nm := by
    unfold bondsE at hE
    split at hE
    · omega
    · rename_i hx; simpa using hx
  obtain ⟨i, b, h1, h2, h3, _⟩ := bFind_pos hn
  have hil := (List.getElem?_eq_some_iff.1 h2).1
  have hS : cdoS s ⟨6, nm, kz, bz, fz, vz, .empty⟩ = ⟨s.kinds, s.bonds.take i ++ s.bonds.drop (i + 1)⟩ := by
    unfold cdoS
    rw [if_pos h]
    unfold chgS
    rw [if_neg (by simp), if_neg (by simp), if_neg (by simp), if_neg (by simp)]
    unfold bondsS
    simp only [h1, Int.toNat_natCast, h2]
    rw [if_pos trivial]
  rw [hS]
  have hno : ∀ y ∈ s.bonds.take i ++ s.bonds.drop (i + 1), y.name ≠ nm := fun y hy e => by
    rcases List.mem_append.1 hy with hm | hm
    · obtain ⟨j, hj⟩ := List.mem_iff_getElem?.1 hm
      rw [List.getElem?_take] at hj
      split at hj
      · exact hd i j b y (by assumption) h2 hj (e.trans h3.symm)
      · cases hj
    · obtain ⟨j, hj⟩ := List.mem_iff_getElem?.1 hm
      rw [List.getElem?_drop] at hj
      exact hd (i + 1 + j) i y b (by omega) hj h2 (h3.trans e.symm)
  have hb : b ∈ s.bonds := List.mem_of_getElem? h2
  refine ⟨?_, ?_⟩
  · unfold losesL
    refine List.mem_append.2 (.inr (List.mem_map.2 ⟨b, List.mem_filter.2 ⟨hb, ?_⟩, h3⟩))
    unfold lostB
    have : ((s.bonds.take i ++ s.bonds.drop (i + 1)).any fun y => decide (b = y)) = false := by
      rw [List.any_eq_false]
      intro y hy
      have := hno y hy
      simp only [decide_eq_true_eq]
      intro e
      rw [← e] at this
      exact this h3
    show (!((s.bonds.take i ++ s.bonds.drop (i + 1)).any fun y => decide (b = y))) = true
    rw [this]; rfl
  · have hf : bFind (s.bonds.take i ++ s.bonds.drop (i + 1)) b.name < 0 := by
      rcases Int.lt_or_le (bFind (s.bonds.take i ++ s.bonds.drop (i + 1)) b.name) 0 with hlt | hge
      · exact hlt
      · obtain ⟨j, y, _, hy, hny, _⟩ := bFind_pos hge
        exact absurd (hny.trans h3) (hno y (List.mem_of_getElem? hy))
    have hw : bondW (s.bonds.take i ++ s.bonds.drop (i + 1)) b = false := by
      unfold bondW
      split
      · simp [hf]
      · rfl
    have : s.bonds.all (bondW (s.bonds.take i ++ s.bonds.drop (i + 1))) = false := by
      rw [List.all_eq_false]
      exact ⟨b, hb, by simp [hw]⟩
    unfold widerB
    simp [this]
end Go.Proofs.YtkegnmclhkpbkaaGreat

/- Plain: the fields of a kind; a node by itself; keys. No condition. -/
namespace Go.Proofs.YtkegnmclhkpbkaaGreat
open Go Go.RowKit

/-- The one kind of a name. -/
theorem Wf.uniq {l : List Knd} (hw : Wf l) {x y : Knd} (hx : x ∈ l) (hy : y ∈ l) (he : x.name = y.name) : x = y := by
  obtain ⟨i, hi⟩ := List.mem_iff_getElem?.1 hx
  obtain ⟨j, hj⟩ := List.mem_iff_getElem?.1 hy
  rcases Nat.lt_trichotomy i j with h | h | h
  · exact absurd he ((hw j y hj).1 i x h hi)
  · subst h; rw [hi] at hj; injection hj
  · exact absurd he.symm ((hw i x hi).1 j y h hj)
theorem fldsFor_of {l : List Knd} (hw : Wf l) {k : Knd} (hk : k ∈ l) : fldsFor l k.name = k.fields := by
  unfold fldsFor
  cases h : l.find? (fun x => decide (x.name = k.name)) with
  | none => rw [List.find?_eq_none] at h; exact absurd (h k hk) (by simp)
  | some d =>
    have h1 := List.mem_of_find?_eq_some h
    have h2 := List.find?_some h
    simp only [decide_eq_true_eq] at h2
    rw [hw.uniq h1 hk h2]
theorem allF_rise : ∀ {fs acc out : List Fld}, fs.foldlM putF acc = some out → Rise acc → Rise out
  | [], acc, out, h, hr => by
    simp only [List.foldlM_nil] at h
    injection h with h; subst h; exact hr
  | f :: fs, acc, out, h, hr => by
    rw [List.foldlM_cons] at h
    cases hp : putF acc f with
    | none => rw [hp] at h; cases h
    | some acc' => rw [hp] at h; exact allF_rise (show fs.foldlM putF acc' = some out from h) (putF_rise hr hp)
theorem Rise.uniq {l : List Fld} (h : Rise l) {x y : Fld} (hx : x ∈ l) (hy : y ∈ l) (he : x.name = y.name) : x = y := by
  obtain ⟨i, hi, rfl⟩ := List.mem_iff_getElem.1 hx
  obtain ⟨j, hj, rfl⟩ := List.mem_iff_getElem.1 hy
  rcases Nat.lt_trichotomy i j with h' | h' | h'
  · have := List.pairwise_iff_getElem.1 h i j hi hj h'
    rw [he, cmpS_zero.2 rfl] at this; omega
  · subst h'; rfl
  · have := List.pairwise_iff_getElem.1 h j i hj hi h'
    rw [he, cmpS_zero.2 rfl] at this; omega
/-- A kind's fields, of kinds that are right. -/
theorem kfl_some {s : Scm} (h : Right s.kinds) {k : Knd} (hk : k ∈ s.kinds) : fieldsOf s.kinds k.name = some (kfl s k.name) := by
  obtain ⟨fs, h1, _⟩ := h.fields hk
  unfold kfl
  rw [if_neg (by have := kFind_mem hk; omega), h1]
  rfl
theorem kfl_rise {s : Scm} (h : Right s.kinds) {k : Knd} (hk : k ∈ s.kinds) : Rise (kfl s k.name) :=
  allF_rise (kfl_some h hk) List.Pairwise.nil
theorem kfl_mem {s : Scm} (h : Right s.kinds) {k : Knd} (hk : k ∈ s.kinds) (x : Fld) : x ∈ kfl s k.name ↔ ∃ d ∈ s.kinds, d.name ∈ kinL s.kinds k.name ∧ x ∈ d.fields := by
  rw [fieldsOf_mem (kfl_some h hk)]
  constructor
  · rintro ⟨nm, h1, h2⟩
    obtain ⟨⟨d, hd, rfl⟩, _⟩ := mem_kinL.1 h1
    rw [fldsFor_of h.wf hd] at h2
    exact ⟨d, hd, h1, h2⟩
  · rintro ⟨d, hd, h1, h2⟩
    exact ⟨d.name, h1, by rw [fldsFor_of h.wf hd]; exact h2⟩
theorem tyF_aux (s : ByteArray) : ∀ (fs : List Fld) (F : ByteArray → Int), ((fs.foldl (fun F f => fun s => if f.name = s then f.ty else F s) F) s = F s ∧ ∀ f ∈ fs, f.name ≠ s) ∨ ∃ f ∈ fs, f.name = s ∧ (fs.foldl (fun F f => fun s => if f.name = s then f.ty else F s) F) s = f.ty
  | [], F => .inl ⟨rfl, by simp⟩
  | f :: r, F => by
    rcases tyF_aux s r (fun s => if f.name = s then f.ty else F s) with ⟨h1, h2⟩ | ⟨x, hx, h1, h2⟩
    · by_cases h : f.name = s
      · exact .inr ⟨f, by simp, h, by rw [List.foldl_cons, h1, if_pos h]⟩
      · exact .inl ⟨by rw [List.foldl_cons, h1, if_neg h], fun x hx => by
          rcases List.mem_cons.1 hx with rfl | hx
          · exact h
          · exact h2 x hx⟩
    · exact .inr ⟨x, by simp [hx], h1, h2⟩
theorem tyF_cases (fs : List Fld) (s : ByteArray) : (tyF fs s = 0 ∧ ∀ f ∈ fs, f.name ≠ s) ∨ ∃ f ∈ fs, f.name = s ∧ tyF fs s = f.ty := tyF_aux s fs _
theorem firstE_zero {D : Type} {f : D → Int} : ∀ {l : List D}, firstE f l = 0 → ∀ x ∈ l, f x = 0
  | [], _, _, h => by cases h
  | d :: r, h, x, hx => by
    rw [firstE] at h
    split at h
    · rename_i h0
      rcases List.mem_cons.1 hx with rfl | hx
      · exact h0
      · exact firstE_zero h x hx
    · rename_i h0; exact absurd h h0
theorem nodE_types {n : Nod} (h : nodE n = 0) : ∀ p ∈ n.props, p.v.ty ≠ 0 := by
  have h1 : recE n.props = 0 := by
    unfold nodE at h
    split at h
    · omega
    · split at h
      · exact h
      · rename_i h0; exact absurd h h0
  have h2 : firstE prpE n.props = 0 := by
    unfold recE at h1
    split at h1
    · omega
    · split at h1
      · assumption
      · rename_i h0; exact absurd h1 h0
  intro p hp e
  have h3 := firstE_zero h2 p hp
  have h4 : valE p.v = 0 := by
    unfold prpE at h3
    split at h3
    · exact h3
    · rename_i h0; exact absurd h3 h0
  unfold valE at h4
  rw [e] at h4
  simp at h4
theorem recF_nil {fs : List Fld} {n : Nod} : recF fs n = [] ↔ (∀ p ∈ n.props, tyF fs p.name = p.v.ty) ∧ ∀ f ∈ fs, f.must = true → rhas n.props f.name = true := by
  unfold recF
  rw [List.append_eq_nil_iff, List.map_eq_nil_iff, List.map_eq_nil_iff, List.filter_eq_nil_iff, List.filter_eq_nil_iff]
  unfold badF lackF
  simp
theorem aloneF_kind {s : Scm} {n : Nod} (h : aloneF s n = []) : ∃ k ∈ s.kinds, k.name = n.kind := by
  unfold aloneF at h
  split at h
  · cases h
  · rename_i h0
    obtain ⟨i, k, _, h2, h3, _⟩ := kFind_pos (by omega : 0 ≤ kFind s.kinds n.kind)
    exact ⟨k, List.mem_of_getElem? h2, h3⟩
theorem aloneF_rec {s : Scm} {n : Nod} (hk : ∃ k ∈ s.kinds, k.name = n.kind) : aloneF s n = recF (kfl s n.kind) n := by
  obtain ⟨k, h1, h2⟩ := hk
  have := kFind_mem h1
  rw [h2] at this
  unfold aloneF
  rw [if_neg (by omega)]
theorem keyOf_iff {n : Nod} {f : Fld} {k : Key} : keyOf n f = some k ↔ f.key = true ∧ rhas n.props f.name = true ∧ ∃ p, n.props[rpos n.props f.name]? = some p ∧ p.v.ty = f.ty ∧ k = ⟨f.name, p.v⟩ := by
  unfold keyOf
  split
  · rename_i p hp
    constructor
    · intro h
      split at h
      · rename_i h0; injection h with h; exact ⟨h0.1, h0.2.1, p, hp, h0.2.2, h.symm⟩
      · cases h
    · rintro ⟨h1, h2, q, hq, h3, rfl⟩
      rw [hp] at hq; injection hq with hq; subst hq
      rw [if_pos ⟨h1, h2, h3⟩]
  · rename_i hp
    constructor
    · intro h; cases h
    · rintro ⟨_, _, q, hq, _⟩; rw [hp] at hq; cases hq
theorem rhas_get {r : List Prp} {nm : ByteArray} (h : rhas r nm = true) {p : Prp} (hp : r[rpos r nm]? = some p) : p.name = nm := by
  unfold rhas eqAt at h
  rw [hp] at h
  have : prpC nm p = 0 := by simpa using h
  exact cmpS_zero.1 this
end Go.Proofs.YtkegnmclhkpbkaaGreat

/- Plain: of a schema that is as wide: kinship and fields. No condition. -/
namespace Go.Proofs.YtkegnmclhkpbkaaGreat

theorem kindW_get {l : List Knd} {k : Knd} (h : kindW l k = true) : ∃ (i : Nat) (d : Knd), l[i]? = some d ∧ d.name = k.name ∧ k.ofs = d.ofs ∧ fieldsW k.fields d.fields = true := by
  unfold kindW at h
  split at h
  · rename_i d hd
    simp only [Bool.and_eq_true, Bool.not_eq_true', decide_eq_false_iff_not, decide_eq_true_eq] at h
    obtain ⟨⟨h1, h2⟩, h3⟩ := h
    obtain ⟨i, e, e1, e2, e3, _⟩ := kFind_pos (l := l) (s := k.name) (by omega)
    rw [e1, Int.toNat_natCast, e2] at hd
    injection hd with hd; subst hd
    exact ⟨i, e, e2, e3, h2, h3⟩
  · cases h
theorem bondW_get {l : List Bnd} {k : Bnd} (h : bondW l k = true) : ∃ (i : Nat) (d : Bnd), l[i]? = some d ∧ d.name = k.name ∧ bondW1 k d = true := by
  unfold bondW at h
  split at h
  · rename_i d hd
    simp only [Bool.and_eq_true, Bool.not_eq_true', decide_eq_false_iff_not] at h
    obtain ⟨h1, h2⟩ := h
    obtain ⟨i, e, e1, e2, e3, _⟩ := bFind_pos (l := l) (s := k.name) (by omega)
    rw [e1, Int.toNat_natCast, e2] at hd
    injection hd with hd; subst hd
    exact ⟨i, e, e2, e3, h2⟩
  · cases h
theorem fFind_neg {l : List Fld} {s : ByteArray} (h : fFind l s < 0) : ∀ f ∈ l, f.name ≠ s := by
  intro k hk e
  have : l.any (fun k => decide (k.name = s)) = true := List.any_eq_true.2 ⟨k, hk, by simpa using e⟩
  rw [← idxI_any] at this
  have h2 : idxI (fun k : Fld => decide (k.name = s)) l < 0 := h
  simp at this
  omega
theorem fFind_pos {l : List Fld} {s : ByteArray} (h : 0 ≤ fFind l s) : ∃ (i : Nat) (k : Fld), fFind l s = i ∧ l[i]? = some k ∧ k.name = s := by
  obtain ⟨i, k, h1, h2, h3, _⟩ := idxI_nonneg h
  exact ⟨i, k, h1, h2, by simpa using h3⟩
/-- What a field of the wider one may be. -/
def FldW (x y : Fld) : Prop := y.name = x.name ∧ y.ty = x.ty ∧ (y.must = true → x.must = true) ∧ (y.key = true → x.key = true)
theorem fieldsW_get {a b : List Fld} (h : fieldsW a b = true) : (∀ x ∈ a, ∃ y ∈ b, FldW x y) ∧ ∀ y ∈ b, y.must = true → ∃ x ∈ a, x.name = y.name := by
  unfold fieldsW at h
  simp only [Bool.and_eq_true, List.all_eq_true, Bool.not_eq_true', List.any_eq_false] at h
  refine ⟨fun x hx => ?_, fun y hy hm => ?_⟩
  · have hf := h.1 x hx
    unfold okF at hf
    split at hf
    · rename_i d hd
      simp only [Bool.and_eq_true, Bool.not_eq_true', decide_eq_false_iff_not, decide_eq_true_eq, Bool.and_eq_false_imp] at hf
      obtain ⟨⟨⟨h1, h2⟩, h3⟩, h4⟩ := hf
      obtain ⟨i, e, e1, e2, e3⟩ := fFind_pos (l := b) (s := x.name) (by omega)
      rw [e1, Int.toNat_natCast, e2] at hd
      injection hd with hd; subst hd
      refine ⟨e, List.mem_of_getElem? e2, e3, h2, fun hm => ?_, fun hk => ?_⟩
      · simpa using h3 hm
      · simpa using h4 hk
    · cases hf
  · have : 0 ≤ fFind a y.name := by simpa [hm] using h.2 y hy
    obtain ⟨i, e, _, e2, e3⟩ := fFind_pos (l := a) (s := y.name) (by omega)
    exact ⟨e, List.mem_of_getElem? e2, e3⟩
theorem BDist.uniq {l : List Bnd} (hw : BDist l) {x y : Bnd} (hx : x ∈ l) (hy : y ∈ l) (he : x.name = y.name) : x = y := by
  obtain ⟨i, hi⟩ := List.mem_iff_getElem?.1 hx
  obtain ⟨j, hj⟩ := List.mem_iff_getElem?.1 hy
  rcases Nat.lt_trichotomy i j with h | h | h
  · exact absurd he (hw j i y x h hj hi)
  · subst h; rw [hi] at hj; injection hj
  · exact absurd he.symm (hw i j x y h hi hj)
/-- Kinship is the same. -/
theorem kin_wide {a b : List Knd} (ha : Wf a) (hb : Wf b) (hw : ∀ x ∈ a, kindW b x = true) {nm : ByteArray} (hn : ∃ k ∈ a, k.name = nm) (s : ByteArray) : s ∈ kinL a nm ↔ s ∈ kinL b nm := by
  have h1 : ∀ s, kinSet a nm s = true → kinSet b nm s = true := by
    intro s hs
    rw [kinSet_eq] at hs
    refine kinFrom_least (T := kinSet b nm) (fun k hk hT o ho => ?_) (fun s hs => ?_) s hs
    · obtain ⟨i, d, hd, e1, e2, _⟩ := kindW_get (hw k hk)
      exact kinSet_closed hb nm d (List.mem_of_getElem? hd) (by rw [e1]; exact hT) o (by rw [← e2]; exact ho)
    · simp at hs; subst hs; exact kinSet_self _ _
  have h0 : ∀ s, kinSet a nm s = true → ∃ k ∈ a, k.name = s := by
    intro s hs
    rw [kinSet_eq] at hs
    rcases kinFrom_inv hs with h | ⟨k, hk, ho⟩
    · simp at h; subst h; exact hn
    · obtain ⟨i, hi⟩ := List.mem_iff_getElem?.1 hk
      obtain ⟨j, x, _, h2, h3⟩ := (ha i k hi).2 s ho
      exact ⟨x, List.mem_of_getElem? h2, h3⟩
  have h2 : ∀ s, kinSet b nm s = true → kinSet a nm s = true := by
    intro s hs
    rw [kinSet_eq] at hs
    refine kinFrom_least (T := kinSet a nm) (fun d hd hT o ho => ?_) (fun s hs => ?_) s hs
    · obtain ⟨k, hk, e⟩ := h0 _ hT
      obtain ⟨i, d', hd', e1, e2, _⟩ := kindW_get (hw k hk)
      have : d' = d := hb.uniq (List.mem_of_getElem? hd') hd (by rw [e1, e])
      subst this
      exact kinSet_closed ha nm k hk (by rw [e]; exact hT) o (by rw [e2]; exact ho)
    · simp at hs; subst hs; exact kinSet_self _ _
  rw [mem_kinL, mem_kinL]
  constructor
  · rintro ⟨⟨k, hk, rfl⟩, h⟩
    obtain ⟨i, d, hd, e1, _, _⟩ := kindW_get (hw k hk)
    exact ⟨⟨d, List.mem_of_getElem? hd, e1⟩, h1 _ h⟩
  · rintro ⟨_, h⟩
    exact ⟨h0 _ (h2 _ h), h2 _ h⟩
/-- The fields of one kind, in the two. -/
theorem kfl_wide {a b : Scm} (ha : Right a.kinds) (hb : Right b.kinds) (hw : ∀ x ∈ a.kinds, kindW b.kinds x = true) {k : Knd} (hk : k ∈ a.kinds) :
    (∀ x ∈ kfl a k.name, ∃ y ∈ kfl b k.name, FldW x y) ∧ (∀ y ∈ kfl b k.name, y.must = true → ∃ x ∈ kfl a k.name, x.name = y.name) ∧ ∃ d ∈ b.kinds, d.name = k.name := by
  obtain ⟨i, kb, hkb, e1, _, _⟩ := kindW_get (hw k hk)
  have hkb := List.mem_of_getElem? hkb
  have hkin := kin_wide ha.wf hb.wf hw ⟨k, hk, rfl⟩
  refine ⟨fun x hx => ?_, fun y hy hm => ?_, kb, hkb, e1⟩
  · obtain ⟨d, hd, h1, h2⟩ := (kfl_mem ha hk x).1 hx
    obtain ⟨j, d', hd', f1, _, f3⟩ := kindW_get (hw d hd)
    obtain ⟨y, hy, hxy⟩ := (fieldsW_get f3).1 x h2
    refine ⟨y, ?_, hxy⟩
    rw [← e1]
    exact (kfl_mem hb hkb y).2 ⟨d', List.mem_of_getElem? hd', by rw [f1, e1]; exact (hkin _).1 h1, hy⟩
  · rw [← e1] at hy
    obtain ⟨d, hd, h1, h2⟩ := (kfl_mem hb hkb y).1 hy
    rw [e1] at h1
    obtain ⟨⟨d0, hd0, e0⟩, _⟩ := mem_kinL.1 ((hkin _).2 h1)
    obtain ⟨j, d', hd', f1, _, f3⟩ := kindW_get (hw d0 hd0)
    have : d' = d := hb.wf.uniq (List.mem_of_getElem? hd') hd (by rw [f1, e0])
    subst this
    obtain ⟨x, hx, e⟩ := (fieldsW_get f3).2 y h2 hm
    exact ⟨x, (kfl_mem ha hk x).2 ⟨d0, hd0, (hkin _).2 (by rw [e0]; exact h1), hx⟩, e⟩
end Go.Proofs.YtkegnmclhkpbkaaGreat

/- Plain: what conforms to a schema conforms to one that is as wide. No condition. -/
namespace Go.Proofs.YtkegnmclhkpbkaaGreat
open Go Go.RowKit

theorem alone_wide {a b : Scm} (ha : Right a.kinds) (hb : Right b.kinds) (hw : ∀ x ∈ a.kinds, kindW b.kinds x = true) {n : Nod} (hn : nodE n = 0) (h : aloneF a n = []) : aloneF b n = [] := by
  obtain ⟨k, hk, e⟩ := aloneF_kind h
  rw [aloneF_rec ⟨k, hk, e⟩, recF_nil] at h
  obtain ⟨f1, f2, d, hd, hdn⟩ := kfl_wide ha hb hw hk
  have hr := kfl_rise hb hd
  rw [hdn] at hr
  rw [e] at f1 f2 hdn hr
  rw [aloneF_rec ⟨d, hd, hdn⟩, recF_nil]
  refine ⟨fun p hp => ?_, fun y hy hm => ?_⟩
  · have hp1 := h.1 p hp
    rcases tyF_cases (kfl a n.kind) p.name with ⟨h1, _⟩ | ⟨x, hx, h1, h2⟩
    · exact absurd (hp1.symm.trans h1) (nodE_types hn p hp)
    · obtain ⟨y, hy, hxy⟩ := f1 x hx
      rcases tyF_cases (kfl b n.kind) p.name with ⟨_, h4⟩ | ⟨z, hz, h3, h4⟩
      · exact absurd (hxy.1.trans h1) (h4 y hy)
      · rw [h4, ← hp1, h2, hr.uniq hz hy (by rw [h3, hxy.1, h1]), hxy.2.1]
  · obtain ⟨x, hx, h1⟩ := f2 y hy hm
    obtain ⟨z, hz, hxz⟩ := f1 x hx
    have : z = y := hr.uniq hz hy (by rw [hxz.1, h1])
    subst this
    rw [hxz.1]
    exact h.2 x hx (hxz.2.2.1 hm)

def keyL (s : Scm) (n : Nod) : List Key := (kfl s n.kind).filterMap (keyOf n)
theorem keys_fold (n : Nod) : ∀ (l : List Fld) (acc : List Flt × List Key), acc.2.Nodup →
    ((l.foldl (keyStep n) acc).1 = [] ↔ acc.1 = [] ∧ (acc.2 ++ l.filterMap (keyOf n)).Nodup) ∧ ((l.foldl (keyStep n) acc).1 = [] → (l.foldl (keyStep n) acc).2 = acc.2 ++ l.filterMap (keyOf n))
  | [], acc, h => by simp [h]
  | f :: r, acc, h => by
    rw [List.foldl_cons]
    cases hk : keyOf n f with
    | none =>
      have : keyStep n acc f = acc := by unfold keyStep; rw [hk]
      rw [this, List.filterMap_cons_none hk]
      exact keys_fold n r acc h
    | some k =>
      rw [List.filterMap_cons_some hk]
      by_cases hm : k ∈ acc.2
      · have e : keyStep n acc f = (acc.1 ++ [⟨4, n.id, f.name⟩], acc.2) := by unfold keyStep; rw [hk]; simp [hm]
        have ih := keys_fold n r (acc.1 ++ [⟨4, n.id, f.name⟩], acc.2) h
        have hno : (r.foldl (keyStep n) (keyStep n acc f)).1 ≠ [] := by
          rw [e]; intro h0; have := (ih.1.1 h0).1; simp at this
        refine ⟨⟨fun h0 => absurd h0 hno, fun h0 => ?_⟩, fun h0 => absurd h0 hno⟩
        have := (List.nodup_append.1 h0.2).2.2 k hm k (by simp)
        exact absurd rfl this
      · have e : keyStep n acc f = (acc.1, acc.2 ++ [k]) := by unfold keyStep; rw [hk]; simp [hm]
        have ih := keys_fold n r (acc.1, acc.2 ++ [k]) (List.nodup_append.2 ⟨h, by simp, fun a ha b hb => by
          simp at hb; subst hb; intro e; subst e; exact hm ha⟩)
        rw [e]
        simpa using ih
theorem node_fold (s : Scm) (g : Grf) (S : List Key) (n : Nod) (h : S.Nodup) :
    ((nodeF s g S n).1 = [] ↔ aloneF s n = [] ∧ s.bonds.flatMap (bondF s g n) = [] ∧ (S ++ keyL s n).Nodup) ∧ ((nodeF s g S n).1 = [] → (nodeF s g S n).2 = S ++ keyL s n) := by
  unfold nodeF keyL
  by_cases hk : kFind s.kinds n.kind < 0
  · rw [if_pos hk]
    have hne : aloneF s n ≠ [] := by unfold aloneF; rw [if_pos hk]; simp
    exact ⟨⟨fun h => absurd h hne, fun h => absurd h.1 hne⟩, fun h => absurd h hne⟩
  · rw [if_neg hk]
    have hf := keys_fold n (kfl s n.kind) ([], S) h
    have hf' : (keysF n (kfl s n.kind) S).1 = [] ↔ (S ++ (kfl s n.kind).filterMap (keyOf n)).Nodup := by
      have := hf.1; simpa [keysF] using this
    constructor
    · simp only [List.append_eq_nil_iff]
      rw [hf']
      constructor
      · rintro ⟨⟨h1, h2⟩, h3⟩; exact ⟨h1, h3, h2⟩
      · rintro ⟨h1, h3, h2⟩; exact ⟨⟨h1, h2⟩, h3⟩
    · intro h0
      simp only [List.append_eq_nil_iff] at h0
      exact hf.2 h0.1.2
theorem nodes_fold (s : Scm) (g : Grf) : ∀ (l : List Nod) (acc : List Flt × List Key), acc.2.Nodup →
    ((l.foldl (fun acc n => (acc.1 ++ (nodeF s g acc.2 n).1, (nodeF s g acc.2 n).2)) acc).1 = [] ↔ acc.1 = [] ∧ (∀ n ∈ l, aloneF s n = [] ∧ s.bonds.flatMap (bondF s g n) = []) ∧ (acc.2 ++ l.flatMap (keyL s)).Nodup)
  | [], acc, h => by simp [h]
  | n :: r, acc, h => by
    rw [List.foldl_cons]
    have hf := node_fold s g acc.2 n h
    by_cases h1 : (nodeF s g acc.2 n).1 = []
    · obtain ⟨a1, a2, a3⟩ := hf.1.1 h1
      have e := hf.2 h1
      rw [h1, e, List.append_nil, nodes_fold s g r (acc.1, acc.2 ++ keyL s n) a3]
      constructor
      · rintro ⟨b1, b2, b3⟩
        refine ⟨b1, fun m hm => ?_, by simpa using b3⟩
        rcases List.mem_cons.1 hm with rfl | hm
        · exact ⟨a1, a2⟩
        · exact b2 m hm
      · rintro ⟨b1, b2, b3⟩
        exact ⟨b1, fun m hm => b2 m (by simp [hm]), by simpa using b3⟩
    · constructor
      · intro h0
        have := (nodesF_aux r _ h0).1
        exact absurd (List.append_eq_nil_iff.1 this).2 h1
      · rintro ⟨b1, b2, b3⟩
        obtain ⟨c1, c2⟩ := b2 n (by simp)
        refine absurd (hf.1.2 ⟨c1, c2, ?_⟩) h1
        rw [List.flatMap_cons, ← List.append_assoc] at b3
        exact (List.nodup_append.1 b3).1
theorem ofF_nil {s : Scm} {g : Grf} : ofF s g = [] ↔ (∀ n ∈ g.nodes, aloneF s n = [] ∧ s.bonds.flatMap (bondF s g n) = []) ∧ (g.nodes.flatMap (keyL s)).Nodup ∧ ∀ t ∈ g.ties, tieF s g t = [] := by
  unfold ofF nodesF
  rw [List.append_eq_nil_iff, nodes_fold s g g.nodes ([], []) List.nodup_nil, List.flatMap_eq_nil_iff]
  simp [and_assoc]
theorem key_wide {a b : Scm} (ha : Right a.kinds) (hb : Right b.kinds) (hw : ∀ x ∈ a.kinds, kindW b.kinds x = true) {n : Nod} (hn : nodE n = 0) (h : aloneF a n = []) : (keyL b n).Nodup ∧ ∀ k ∈ keyL b n, k ∈ keyL a n := by
  obtain ⟨k, hk, e⟩ := aloneF_kind h
  rw [aloneF_rec ⟨k, hk, e⟩, recF_nil] at h
  obtain ⟨f1, f2, d, hd, hdn⟩ := kfl_wide ha hb hw hk
  have hr := kfl_rise hb hd
  rw [hdn] at hr
  rw [e] at f1 f2 hdn hr
  constructor
  · unfold keyL List.Nodup
    rw [List.pairwise_filterMap]
    refine List.Pairwise.imp (fun {x y} hxy => ?_) hr
    intro k1 h1 k2 h2 e
    obtain ⟨_, _, p, _, _, rfl⟩ := keyOf_iff.1 h1
    obtain ⟨_, _, q, _, _, rfl⟩ := keyOf_iff.1 h2
    injection e with e1 e2
    rw [e1, cmpS_zero.2 rfl] at hxy
    omega
  · intro K hK
    obtain ⟨y, hy, hKy⟩ := List.mem_filterMap.1 hK
    obtain ⟨h1, h2, p, hp, h3, rfl⟩ := keyOf_iff.1 hKy
    have hpn := rhas_get h2 hp
    have hpm := List.mem_of_getElem? hp
    have hp1 := h.1 p hpm
    rcases tyF_cases (kfl a n.kind) p.name with ⟨h1, _⟩ | ⟨x, hx, g1, g2⟩
    · exact absurd (hp1.symm.trans h1) (nodE_types hn p hpm)
    · obtain ⟨z, hz, hxz⟩ := f1 x hx
      have : z = y := hr.uniq hz hy (by rw [hxz.1, g1, hpn])
      subst this
      have hxn : x.name = z.name := hxz.1.symm
      exact List.mem_filterMap.2 ⟨x, hx, keyOf_iff.2 ⟨hxz.2.2.2 h1, by rw [hxn]; exact h2, p, by rw [hxn]; exact hp, by rw [h3, hxz.2.1], by rw [hxn]⟩⟩
theorem flat_nodup {A B : Type} {f g : A → List B} {l : List A} (h : (l.flatMap f).Nodup) (hg : ∀ x ∈ l, (g x).Nodup ∧ ∀ k ∈ g x, k ∈ f x) : (l.flatMap g).Nodup := by
  unfold List.Nodup at h ⊢
  rw [List.pairwise_flatMap] at h ⊢
  refine ⟨fun x hx => (hg x hx).1, ?_⟩
  refine List.Pairwise.imp_of_mem (fun {x y} hx hy hxy => ?_) h.2
  exact fun k1 h1 k2 h2 => hxy k1 ((hg x hx).2 k1 h1) k2 ((hg y hy).2 k2 h2)
end Go.Proofs.YtkegnmclhkpbkaaGreat

/- Plain: behind ops, each fault of a graph that conformed names a node that was touched, or has a key; ends of ties of nodes that were not touched. No condition. -/
namespace Go.Proofs.YtkegnmclhkpbkaaGreat
open Go

theorem near_ends {g g' : Grf} {U : Int → Prop} (h : grfE g = 0) (h' : grfE g' = 0) (hN : Near g g' U) {id : Int} (hu : U id) (bond : ByteArray) : endsS g' id bond false = endsS g id bond false := by
  have e : g'.ties.filter (endT false bond id) = g.ties.filter (endT false bond id) := by
    refine pw_ext tieLt_tr tieLt_ir ((ties_pw h').filter _) ((ties_pw h).filter _) fun t => ?_
    rw [List.mem_filter, List.mem_filter]
    refine ⟨fun ⟨h1, h2⟩ => ⟨?_, h2⟩, fun ⟨h1, h2⟩ => ⟨?_, h2⟩⟩
    all_goals
      have hs : t.src = id := by
        unfold endT at h2
        simp only [Bool.and_eq_true, Bool.false_eq_true, if_false, beq_iff_eq] at h2
        exact h2.2
      have hus : U t.src := by rw [hs]; exact hu
    · exact (hN.t t hus).2 h1
    · exact (hN.t t hus).1 h1
  unfold endsS endsL
  rw [e]
theorem endB_iff {s : Scm} {g : Grf} (h : grfE g = 0) {id : Int} {asked : ByteArray} : endB s g id asked = true ↔ ∃ n ∈ g.nodes, n.id = id ∧ 0 ≤ kFind s.kinds n.kind ∧ isKinB s.kinds n.kind asked = true := by
  constructor
  · intro he
    unfold endB at he
    cases hm : g.nodes[fpos g.nodes id]? with
    | none => rw [hm] at he; cases he
    | some n =>
      rw [hm] at he
      simp only [Bool.and_eq_true, decide_eq_true_eq] at he
      obtain ⟨⟨h1, h2⟩, h3⟩ := he
      obtain ⟨m, hm1, hm2⟩ := (fhas_mem h id).1 h1
      have := (fpos_of h hm1).2
      rw [hm2, hm] at this
      injection this with this
      subst this
      exact ⟨n, hm1, hm2, h2, h3⟩
  · rintro ⟨n, h1, rfl, h2, h3⟩
    obtain ⟨p1, p2⟩ := fpos_of h h1
    unfold endB
    rw [p2]
    simp [p1, h2, h3]
theorem keysF_what (n : Nod) : ∀ (l : List Fld) (acc : List Flt × List Key), (∀ f ∈ acc.1, f.what = 4 ∧ f.node = n.id) → ∀ f ∈ (l.foldl (keyStep n) acc).1, f.what = 4 ∧ f.node = n.id
  | [], _, h => h
  | x :: r, acc, h => by
    rw [List.foldl_cons]
    refine keysF_what n r _ fun f hf => ?_
    unfold keyStep at hf
    split at hf
    · split at hf
      · rcases List.mem_append.1 hf with hf | hf
        · exact h f hf
        · simp at hf; subst hf; exact ⟨rfl, rfl⟩
      · exact h f hf
    · exact h f hf
theorem nodesF_mem (s : Scm) (g : Grf) : ∀ (l : List Nod) (acc : List Flt × List Key) (f : Flt), f ∈ (l.foldl (fun acc n => (acc.1 ++ (nodeF s g acc.2 n).1, (nodeF s g acc.2 n).2)) acc).1 →
    f ∈ acc.1 ∨ ∃ n ∈ l, f ∈ aloneF s n ∨ (f.what = 4 ∧ f.node = n.id) ∨ f ∈ s.bonds.flatMap (bondF s g n)
  | [], _, _, h => .inl h
  | x :: r, acc, f, h => by
    rw [List.foldl_cons] at h
    rcases nodesF_mem s g r _ f h with h1 | ⟨n, hn, h1⟩
    · rcases List.mem_append.1 h1 with h2 | h2
      · exact .inl h2
      · refine .inr ⟨x, by simp, ?_⟩
        unfold nodeF at h2
        split at h2
        · exact .inl h2
        · simp only [List.append_assoc] at h2
          rcases List.mem_append.1 h2 with h3 | h3
          · exact .inl h3
          · rcases List.mem_append.1 h3 with h4 | h4
            · exact .inr (.inl (keysF_what x (kfl s x.kind) ([], acc.2) (fun f hf => by simp at hf) f h4))
            · exact .inr (.inr h4)
    · exact .inr ⟨n, by simp [hn], h1⟩
theorem aloneF_node {s : Scm} {n : Nod} {f : Flt} (h : f ∈ aloneF s n) : f.node = n.id := by
  unfold aloneF recF at h
  split at h
  · simp at h; subst h; rfl
  · rcases List.mem_append.1 h with h | h
    · obtain ⟨p, _, rfl⟩ := List.mem_map.1 h; rfl
    · obtain ⟨p, _, rfl⟩ := List.mem_map.1 h; rfl
theorem bondF_node {s : Scm} {g : Grf} {n : Nod} {b : Bnd} {f : Flt} (h : f ∈ bondF s g n b) : f.node = n.id := by
  unfold bondF at h
  split at h
  · rcases List.mem_append.1 h with h | h
    · split at h
      · simp at h; subst h; rfl
      · simp at h
    · split at h
      · simp at h; subst h; rfl
      · simp at h
  · simp at h
theorem tieF_node {s : Scm} {g : Grf} {t : Tie} {f : Flt} (h : f ∈ tieF s g t) : f.node = t.src := by
  unfold tieF at h
  split at h
  · split at h
    · simp at h; subst h; rfl
    · split at h
      · simp at h
      · simp at h; subst h; rfl
  · simp at h; subst h; rfl
theorem near_faults {s : Scm} {g g' : Grf} {U : Int → Prop} (h : grfE g = 0) (h' : grfE g' = 0) (hN : Near g g' U) (hc : ofF s g = []) : ∀ f ∈ ofF s g', U f.node → f.what = 4 := by
  obtain ⟨c1, _, c3⟩ := ofF_nil.1 hc
  intro f hf hu
  unfold ofF at hf
  rcases List.mem_append.1 hf with hf | hf
  · rcases nodesF_mem s g' g'.nodes ([], []) f hf with h1 | ⟨n, hn, h1⟩
    · simp at h1
    · rcases h1 with h1 | h1 | h1
      · have hi := aloneF_node h1
        have hng := hN.n2 n hn (by rw [← hi]; exact hu)
        rw [(c1 n hng).1] at h1
        simp at h1
      · exact h1.1
      · obtain ⟨b, hb, h2⟩ := List.mem_flatMap.1 h1
        have hi := bondF_node h2
        have hun : U n.id := by rw [← hi]; exact hu
        have hng := hN.n2 n hn hun
        have e : bondF s g' n b = bondF s g n b := by
          have : manyF g' n b = manyF g n b := by unfold manyF; rw [near_ends h h' hN hun b.name]
          unfold bondF
          rw [this]
        rw [e] at h2
        have := List.flatMap_eq_nil_iff.1 (c1 n hng).2 b hb
        rw [this] at h2
        simp at h2
  · obtain ⟨t, ht, h1⟩ := List.mem_flatMap.1 hf
    have hi := tieF_node h1
    have hus : U t.src := by rw [← hi]; exact hu
    have htg := (hN.t t hus).2 ht
    have hz := c3 t htg
    have e : tieF s g' t = [] := by
      unfold tieF at hz ⊢
      cases hb : s.bonds[(bFind s.bonds t.bond).toNat]? with
      | none => rw [hb] at hz; simp at hz
      | some b =>
        rw [hb] at hz
        simp only at hz ⊢
        by_cases hk : bFind s.bonds t.bond < 0
        · rw [if_pos hk] at hz; simp at hz
        · rw [if_neg hk] at hz ⊢
          by_cases he : endB s g t.src b.src = true ∧ endB s g t.dst b.dst = true
          · obtain ⟨n, n1, n2, n3, n4⟩ := (endB_iff h).1 he.1
            obtain ⟨m, m1, m2, m3, m4⟩ := (endB_iff h).1 he.2
            obtain ⟨m', k1, k2, k3⟩ := hN.k t htg hus m m1 m2
            have a1 : endB s g' t.src b.src = true := (endB_iff h').2 ⟨n, hN.n1 n n1 (by rw [n2]; exact hus), n2, n3, n4⟩
            have a2 : endB s g' t.dst b.dst = true := (endB_iff h').2 ⟨m', k1, k2.trans m2, by rw [k3]; exact m3, by rw [k3]; exact m4⟩
            rw [if_pos ⟨a1, a2⟩]
          · rw [if_neg he] at hz; simp at hz
    rw [e] at h1
    simp at h1
end Go.Proofs.YtkegnmclhkpbkaaGreat

/- Contracts: guard.Check, guard.May. No condition. -/
namespace Go.Proofs.YtkegnmclhkpbkaaGreat
open Go Go.RowKit


set_option maxRecDepth 100000 in
set_option maxHeartbeats 8000000 in
theorem gck_any (s : Scm) (g : Grf) (l : List Opr) (vk vb vn vt vl : Value) (w : World) (hs : ScmR w vk vb s) (hg : GrfR w vn vt g) (hl : Sl oprL w vl l) :
    Calls Tryz.prog 11 #[.agg #[vk, vb], .agg #[vn, vt], vl] w (RetF (gckR s g l) (gckE s g l) w) := by
  obtain ⟨A1, c1, rfl, _, _⟩ := hs.1.form
  obtain ⟨A2, c2, rfl, _, _⟩ := hs.2.form
  obtain ⟨A3, c3, rfl, _, _⟩ := hg.1.form
  obtain ⟨A4, c4, rfl, _, _⟩ := hg.2.form
  obtain ⟨W0, hW0⟩ : ∃ W0, W0 = (w.alloc (.cells #[.slice A1 s.kinds.length c1, .slice A2 s.bonds.length c2] 25)).alloc (.cells #[.slice A3 g.nodes.length c3, .slice A4 g.ties.length c4] 29) := ⟨_, rfl⟩
  have hb0 : Below w.heap.size w W0 := by rw [hW0]; exact ((Below.refl _ _).alloc (Nat.le_refl _) _).alloc (by simp) _
  have g0 : W0.heap[w.heap.size]? = some (.cells #[.slice A1 s.kinds.length c1, .slice A2 s.bonds.length c2] 25 (0, 0)) := by
    rw [hW0, Below.heap_alloc _ _ _ (by simp)]; exact heap_alloc_new _ _
  have g1 : W0.heap[w.heap.size + 1]? = some (.cells #[.slice A3 g.nodes.length c3, .slice A4 g.ties.length c4] 29 (0, 0)) := by
    have := heap_alloc_new (w.alloc (.cells #[.slice A1 s.kinds.length c1, .slice A2 s.bonds.length c2] 25)) (.cells #[.slice A3 g.nodes.length c3, .slice A4 g.ties.length c4] 29); rw [hW0]; simpa using this
  have hW0' := hW0.symm
  have HG0 := Lib.hid g0
  have HG1 := Lib.hid g1
  have x0 := block_cell g0 0
  have x1 := block_cell g0 1
  have y0 := block_cell g1 0
  have y1 := block_cell g1 1
  have hw0 := hb0.size
  obtain ⟨A5, c5, rfl, _, _⟩ := hl.form
  have hrd := cready_any s g _ _ _ _ W0 (hs.below hb0) (hg.below hb0)
  have HS := Lib.hid (hs.below hb0)
  have HG := Lib.hid (hg.below hb0)
  have HL := Lib.hid (hl.below hb0)
  have HCE : Hid (gckE s g l = if readySG s g = 0 then (if (ofF s g).length = 0 then dallE g l else 6) else readySG s g) := rfl
  have HCR : Hid (gckR s g l = if gckE s g l = 0 then ofF s (dallG g l) else []) := rfl
  have HZ : Hid (readySG s g = 0 → (scmE s).2 = 0 ∧ grfE g = 0) := readySG_zero
  have HDZ : Hid (dallE g l = 0 → grfE (dallG g l) = 0) := fun h => (dall_zero h).2.2.2.2
  unfold RetF
  generalize gckE s g l = ce at *
  generalize gckR s g l = cr at *
  generalize hdz : dallE g l = de at *
  have HDE := Lib.hid hdz
  have X0 := Lib.hid x0
  have X1 := Lib.hid x1
  have Y0 := Lib.hid y0
  have Y1 := Lib.hid y1
  clear hs hg hl g0 g1 hW0 hdz
  go_enter Tryz.func11, Tryz.ntmps11
  go_wp2_with fail
  clear hW0'
  refine hrd.mono ?_
  clear hrd x0 x1 y0 y1
  rintro e w1 ⟨rfl, hb1⟩
  have hB1 := hb0.trans (hb1.mono hw0)
  by_cases hz : readySG s g = 0
  case neg =>
    have HE : Hid (errV ce = .iface 69 (.int .i64 (readySG s g)) ∧ cr = []) := by
      have h0 : ce = readySG s g := by rw [HCE.out, if_neg hz]
      exact ⟨by rw [h0]; exact errV_some hz, by rw [HCR.out, h0, if_neg hz]⟩
    rw [errV_some hz]
    clear hz
    go_wp2_with fail
    go_ret2
    exact ⟨.slice none 0 0, by rw [HE.out.1]; rfl, by rw [HE.out.2]; exact Sl.nil 0 (Nat.zero_le _) none, hB1⟩
  rw [errV_zero hz]
  obtain ⟨h1, h2⟩ := HZ.out hz
  have x0 := cell_below hb1 X0.out
  have x1 := cell_below hb1 X1.out
  have y0 := cell_below hb1 Y0.out
  have y1 := cell_below hb1 Y1.out
  have hof := of_any s g _ _ _ _ w1 (HS.out.below hb1) (HG.out.below hb1) h1 h2
  have HCE2 : Hid (ce = if (ofF s g).length = 0 then de else 6) := by unfold Hid; rw [HCE.out, if_pos hz]
  have HOF : Hid (∀ vn' vt' W, GrfR W vn' vt' (dallG g l) → Below W0.heap.size W0 W → de = 0 → Calls Tryz.prog 23 #[.agg #[.slice A1 s.kinds.length c1, .slice A2 s.bonds.length c2], .agg #[vn', vt']] W fun e w' => ∃ u, e = .returned u ∧ Sl fltL w' u (ofF s (dallG g l)) ∧ Below W.heap.size W w') := fun vn' vt' W hgo hW hd =>
    of_any s (dallG g l) _ _ _ _ W (HS.out.below hW) hgo h1 (HDZ.out hd)
  generalize hol : ofF s g = F1 at *
  clear hz h1 h2 HZ HCE hol
  go_wp2_with fail
  refine hof.mono ?_
  clear hof x0 x1 y0 y1
  rintro e w2 ⟨u2, rfl, hu2, hb2⟩
  obtain ⟨A6, c6, rfl, _, _⟩ := hu2.form
  have hB2 := hb1.trans (hb2.mono hb1.size)
  have hBW := hb0.trans (hB2.mono hw0)
  by_cases hl0 : F1.length = 0
  case neg =>
    have hlp : (0 : Int) < (F1.length : Int) := by omega
    have HE : Hid (errV ce = .iface 69 (.int .i64 6) ∧ cr = []) := by
      have h0 : ce = 6 := by rw [HCE2.out, if_neg hl0]
      exact ⟨by rw [h0]; rfl, by rw [HCR.out, h0]; rfl⟩
    clear hl0
    go_wp2_with fail
    go_ret2
    exact ⟨.slice none 0 0, by rw [HE.out.1]; rfl, by rw [HE.out.2]; exact Sl.nil 0 (Nat.zero_le _) none, hBW⟩
  have hlp : ¬ ((0 : Int) < (F1.length : Int)) := by omega
  have HCE3 : Hid (ce = de) := by unfold Hid; rw [HCE2.out, if_pos hl0]
  have y0 := cell_below hB2 Y0.out
  have y1 := cell_below hB2 Y1.out
  have hda := dall_any g l _ _ _ w2 (HG.out.below hB2) (HL.out.below hB2)
  rw [HDE.out] at hda
  clear hl0 HCE2
  go_wp2_with fail
  refine hda.mono ?_
  clear hda y0 y1
  rintro e w3 ⟨un, ut, rfl, hgo, hb3⟩
  obtain ⟨A7, c7, rfl, _, _⟩ := hgo.1.form
  obtain ⟨A8, c8, rfl, _, _⟩ := hgo.2.form
  have hB3 := hB2.trans (hb3.mono hB2.size)
  have hx3 : Below w3.heap.size w3 (w3.alloc (.cells #[.slice A7 (dallG g l).nodes.length c7, .slice A8 (dallG g l).ties.length c8] 29)) := (Below.refl _ _).alloc (Nat.le_refl _) _
  have rn := heap_alloc_new w3 (.cells #[.slice A7 (dallG g l).nodes.length c7, .slice A8 (dallG g l).ties.length c8] 29)
  have hB4 := hB3.trans (hx3.mono hB3.size)
  have hgo4 := hgo.below hx3
  by_cases hd : de = 0
  case neg =>
    have HE : Hid (errV ce = .iface 69 (.int .i64 de) ∧ cr = []) := by
      exact ⟨by rw [HCE3.out]; exact errV_some hd, by rw [HCR.out, HCE3.out, if_neg hd]⟩
    rw [errV_some hd]
    have HBW := Lib.hid (hb0.trans (hB4.mono hw0))
    clear hd rn hgo hgo4 HOF HDZ
    go_wp2_with fail
    go_ret2
    exact ⟨.slice none 0 0, by rw [HE.out.1]; rfl, by rw [HE.out.2]; exact Sl.nil 0 (Nat.zero_le _) none, HBW.out⟩
  have HE : Hid (errV ce = .nilIface ∧ cr = ofF s (dallG g l)) := ⟨by rw [HCE3.out, hd]; rfl, by rw [HCR.out, HCE3.out, if_pos hd]⟩
  have hx := HOF.out _ _ _ hgo4 hB4 hd
  rw [errV_zero hd]
  have x0 := cell_below hB4 X0.out
  have x1 := cell_below hB4 X1.out
  have z0 := block_cell rn 0
  have z1 := block_cell rn 1
  have HB4 := Lib.hid hB4
  clear hd rn hgo hgo4 HOF HDZ hB3 hb3 hx3
  go_upto_region 7 with fail
  generalize w3.alloc (.cells #[.slice A7 (dallG g l).nodes.length c7, .slice A8 (dallG g l).ties.length c8] 29) = w4 at *
  go_wp2_with fail
  refine hx.mono ?_
  clear hx x0 x1 z0 z1
  rintro e w5 ⟨u5, rfl, hu5, hb5⟩
  obtain ⟨A9, c9, rfl, _, _⟩ := hu5.form
  have HU := Lib.hid hu5
  have HBW := Lib.hid (hb0.trans ((HB4.out.trans (hb5.mono HB4.out.size)).mono hw0))
  clear hu5
  go_wp2_with fail
  go_ret2
  exact ⟨_, by rw [HE.out.1]; rfl, by rw [HE.out.2]; exact HU.out, HBW.out⟩
end Go.Proofs.YtkegnmclhkpbkaaGreat

/- Contracts: graph.ends, graph.Out, graph.In. -/
namespace Go.Proofs.YtkegnmclhkpbkaaGreat
open Go Go.RowKit

def endsR (g : Grf) (id : Int) (bond : ByteArray) (back : Bool) : List Int := if nodeE g id = 0 then endsS g id bond back else []
/-- Ends, and an error. -/
def RetE (l : List Int) (err : Int) (w : World) (e : Ending) (w' : World) : Prop := ∃ u, e = .returned (.tuple #[u, errV err]) ∧ Sl intL w' u l ∧ Below w.heap.size w w'
theorem nodeE_grf {g : Grf} {id : Int} (h : nodeE g id = 0) : grfE g = 0 := by
  unfold nodeE at h
  split at h
  · assumption
  · rename_i h1; exact absurd h h1
set_option maxRecDepth 100000 in
set_option maxHeartbeats 8000000 in
theorem ends2_any (g : Grf) (id : Int) (bond : ByteArray) (back : Bool) (vn vt : Value) (w : World) (hG : GrfR w vn vt g) :
    Calls Tryz.prog 21 #[.agg #[vn, vt], .int .i64 id, .string bond, .bool back] w (RetE (endsR g id bond back) (nodeE g id) w) := by
  obtain ⟨An, cn, rfl, _, _⟩ := hG.1.form
  obtain ⟨At, ct, rfl, _, _⟩ := hG.2.form
  have hb0 : Below w.heap.size w (w.alloc (.cells #[.slice An g.nodes.length cn, .slice At g.ties.length ct] 29)) := (Below.refl _ _).alloc (Nat.le_refl _) _
  obtain ⟨x0, x1⟩ := cell_box2 w (.slice An g.nodes.length cn) (.slice At g.ties.length ct) 29
  generalize hW0 : w.alloc (.cells #[.slice An g.nodes.length cn, .slice At g.ties.length ct] 29) = W0 at *
  have HG := Lib.hid (hG.below hb0)
  have hw0 := hb0.size
  have hnd := gnode_any g id _ _ W0 (hG.below hb0)
  obtain ⟨z, hz⟩ : ∃ z, z = nodeE g id := ⟨_, rfl⟩
  have HZ := Lib.hid hz
  rw [← hz] at hnd
  have HR : Hid (endsR g id bond back = if z = 0 then endsS g id bond back else []) := by unfold Hid; rw [hz]; rfl
  rw [← hz]
  generalize nodeR g id = nd at *
  clear hG hz
  go_enter Tryz.func21, Tryz.ntmps21
  go_wp2_with fail
  clear hW0
  refine hnd.mono ?_
  clear hnd
  rintro e w1 ⟨u, rfl, hu, hb1⟩
  obtain ⟨Au, cu, rfl, _, _⟩ := hu.form
  have y0 := cell_below hb1 x0
  have y1 := cell_below hb1 x1
  have hB1 := hb0.trans (hb1.mono hw0)
  have hs1 := hB1.size
  have hax : Below w1.heap.size w1 (w1.alloc (.cells #[.int .i64 nd.id, .string nd.kind, .slice Au nd.props.length cu] 34)) := (Below.refl _ _).alloc (Nat.le_refl _) _
  have z0 := cell_below hax y0
  have z1 := cell_below hax y1
  have hB2 := hB1.trans (hax.mono hs1)
  by_cases h0 : z = 0
  · rw [errV_zero h0]
    have HR2 : Hid (endsR g id bond back = endsS g id bond back ∧ errV z = .nilIface) := ⟨by rw [HR.out, if_pos h0], errV_zero h0⟩
    have hok := grf_ok (nodeE_grf (HZ.out.symm.trans h0))
    have hes := ends_any g id bond back _ _ _ (HG.out.below (hb1.trans (hax.mono hb1.size))) (by omega)
    clear h0 hok
    go_wp2_with fail
    refine hes.mono ?_
    clear hes
    rintro e w2 ⟨v, rfl, hov, hvi, hb2⟩
    have hB3 := hB2.trans (hb2.mono hB2.size)
    have HV := Lib.hid (hov.ints hvi)
    clear hov hvi
    go_wp2_with fail
    go_ret2
    exact ⟨_, by rw [HR2.out.2]; rfl, by rw [HR2.out.1]; exact HV.out, hB3⟩
  · rw [errV_some h0]
    have HR2 : Hid (endsR g id bond back = [] ∧ errV z = .iface 69 (.int .i64 z)) := ⟨by rw [HR.out, if_neg h0], errV_some h0⟩
    clear h0
    go_wp2_with fail
    go_ret2
    exact ⟨_, by rw [HR2.out.2]; rfl, by rw [HR2.out.1]; exact Sl.nil 0 (Nat.zero_le _) none, hB2⟩
set_option maxRecDepth 100000 in
set_option maxHeartbeats 8000000 in
theorem gout_any (g : Grf) (id : Int) (bond : ByteArray) (vn vt : Value) (w : World) (hG : GrfR w vn vt g) :
    Calls Tryz.prog 9 #[.agg #[vn, vt], .int .i64 id, .string bond] w (RetE (endsR g id bond false) (nodeE g id) w) := by
  obtain ⟨An, cn, rfl, _, _⟩ := hG.1.form
  obtain ⟨At, ct, rfl, _, _⟩ := hG.2.form
  have hb0 : Below w.heap.size w (w.alloc (.cells #[.slice An g.nodes.length cn, .slice At g.ties.length ct] 29)) := (Below.refl _ _).alloc (Nat.le_refl _) _
  obtain ⟨x0, x1⟩ := cell_box2 w (.slice An g.nodes.length cn) (.slice At g.ties.length ct) 29
  have hes := ends2_any g id bond false _ _ _ (hG.below hb0)
  clear hG
  generalize nodeE g id = z at *
  generalize endsR g id bond false = l at *
  go_enter Tryz.func9, Tryz.ntmps9
  go_wp2_with fail
  refine hes.mono ?_
  clear hes
  rintro e w2 ⟨v, rfl, hv, hb2⟩
  obtain ⟨A, c, rfl, _, _⟩ := hv.form
  have HV := Lib.hid hv
  have hB := hb0.trans (hb2.mono hb0.size)
  clear hv hb2
  go_wp2_with fail
  go_ret2
  exact ⟨_, rfl, HV.out, hB⟩
end Go.Proofs.YtkegnmclhkpbkaaGreat
