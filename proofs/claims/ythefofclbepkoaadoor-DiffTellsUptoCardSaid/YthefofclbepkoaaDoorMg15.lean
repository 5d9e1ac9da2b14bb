/- Parts: ChQ, DiffP, DifT. -/
import Derived.Test.YthefofclbepkoaaDoorMg14
import Derived.Test.YthefofclbepkoaaDoorMg11
import Derived.Test.YthefofclbepkoaaDoorMg12
/- Plain: a schema that was changed, and changed back, is as it was. No condition. -/
namespace Go.Proofs.YthefofclbepkoaaDoor

theorem low_eq {D : Type} {c : D → Int} {l : List D} {t : Nat} (hA : ∀ i d, i < t → l[i]? = some d → c d < 0) (ht : t ≤ l.length) (hB : ∀ d, l[t]? = some d → 0 ≤ c d) : lowI c l = t := by
  have hle := lowI_le c l
  rcases Nat.lt_trichotomy (lowI c l) t with h | h | h
  · exfalso
    have hl : lowI c l < l.length := by omega
    have h1 := hA _ _ h (List.getElem?_eq_getElem hl)
    have := List.findIdx_getElem (xs := l) (p := fun d => decide (0 ≤ c d)) (w := hl)
    simp only [decide_eq_true_eq] at this
    have h2 : 0 ≤ c (l[lowI c l]'hl) := this
    omega
  · exact h
  · exfalso
    have hl : t < l.length := by omega
    have h1 := low_lt h (List.getElem?_eq_getElem hl)
    have h2 := hB _ (List.getElem?_eq_getElem hl)
    omega
theorem fldE_zero {p : Option Fld} {f : Fld} (h : fldE p f = 0) : nameE f.name = 0 ∧ ∀ q, p = some q → cmpS q.name f.name < 0 := by
  unfold fldE at h
  split at h
  · rename_i h1
    refine ⟨h1, fun q hq => ?_⟩
    subst hq
    split at h
    · split at h
      · omega
      · simp only at h
        split at h
        · rename_i hl
          rw [ltS_cmp] at hl
          simpa using hl
        · omega
    · omega
  · rename_i h1; exact absurd h h1
theorem fldsE_zero : ∀ {l : List Fld} {p : Option Fld}, fldsE p l = 0 → (∀ f ∈ l, nameE f.name = 0) ∧ Rise l ∧ (∀ q, p = some q → ∀ f ∈ l, cmpS q.name f.name < 0)
  | [], p, _ => ⟨by simp, List.Pairwise.nil, by simp⟩
  | f :: l, p, h => by
    rw [fldsE] at h
    split at h
    · rename_i h0
      obtain ⟨a1, a2⟩ := fldE_zero h0
      obtain ⟨b1, b2, b3⟩ := fldsE_zero h
      refine ⟨fun x hx => ?_, List.Pairwise.cons (fun x hx => b3 f rfl x hx) b2, fun q hq x hx => ?_⟩
      · rcases List.mem_cons.1 hx with rfl | hx
        · exact a1
        · exact b1 x hx
      · rcases List.mem_cons.1 hx with rfl | hx
        · exact a2 q hq
        · exact cmpS_trans (a2 q hq) (b3 f rfl x hx)
    · rename_i h0; exact absurd h h0
theorem Right.flds {l : List Knd} (h : Right l) {d : Knd} (hd : d ∈ l) : (∀ f ∈ d.fields, nameE f.name = 0) ∧ Rise d.fields ∧ d.fields.length ≤ 8 := by
  obtain ⟨i, hi⟩ := List.mem_iff_getElem?.1 hd
  have ho := h.one i d hi
  obtain ⟨h1, h2, _⟩ := fldsE_zero ho.fls
  exact ⟨h1, h2, ho.fll⟩
theorem bndsE_zero {ks : List Knd} : ∀ {r p : List Bnd}, (bndsE ks p r).2 = 0 → ∀ (i : Nat) b, r[i]? = some b → bndE ks (p ++ r.take i) b = 0
  | [], _, _, i, b, h => by simp at h
  | x :: r, p, h, i, b, hb => by
    rw [bndsE] at h
    split at h
    · rename_i h0
      cases i with
      | zero => simp at hb; subst hb; simpa using h0
      | succ i =>
        have := bndsE_zero h i b (by simpa using hb)
        simpa using this
    · rename_i h0; exact absurd h h0
theorem bFind_neg {l : List Bnd} {s : ByteArray} (h : bFind l s < 0) : ∀ k ∈ l, k.name ≠ s := by
  intro k hk e
  have : l.any (fun k => decide (k.name = s)) = true := List.any_eq_true.2 ⟨k, hk, by simpa using e⟩
  rw [← idxI_any] at this
  have h2 : idxI (fun k : Bnd => decide (k.name = s)) l < 0 := h
  simp at this
  omega
theorem bFind_pos {l : List Bnd} {s : ByteArray} (h : 0 ≤ bFind l s) : ∃ (i : Nat) (k : Bnd), bFind l s = i ∧ l[i]? = some k ∧ k.name = s ∧ ∀ j x, j < i → l[j]? = some x → x.name ≠ s := by
  obtain ⟨i, k, h1, h2, h3, h4⟩ := idxI_nonneg h
  exact ⟨i, k, h1, h2, by simpa using h3, fun j x hj hx => by simpa using h4 j x hj hx⟩
structure BndOk (ks : List Knd) (p : List Bnd) (b : Bnd) : Prop where
  nm : nameE b.name = 0
  new : bFind p b.name < 0
  src : 0 ≤ kFind ks b.src
  dst : 0 ≤ kFind ks b.dst
  rng : ¬ rngB b
theorem bndE_zero {ks : List Knd} {p : List Bnd} {b : Bnd} (h : bndE ks p b = 0) : BndOk ks p b := by
  unfold bndE at h
  by_cases h1 : nameE b.name = 0
  · rw [if_pos h1] at h
    by_cases h2 : 0 ≤ bFind p b.name
    · rw [if_pos h2] at h; omega
    rw [if_neg h2] at h
    by_cases h3 : kFind ks b.src < 0 ∨ kFind ks b.dst < 0
    · rw [if_pos h3] at h; omega
    rw [if_neg h3] at h
    by_cases h4 : rngB b
    · rw [if_pos h4] at h; omega
    exact ⟨h1, by omega, by omega, by omega, h4⟩
  · rw [if_neg h1] at h; exact absurd h h1
/-- A schema that is right. -/
structure ScmOk (s : Scm) : Prop where
  r : Right s.kinds
  bl : s.bonds.length ≤ 12
  b : ∀ (i : Nat) b, s.bonds[i]? = some b → BndOk s.kinds (s.bonds.take i) b
theorem scmE_zero {s : Scm} (h : (scmE s).2 = 0) : ScmOk s := by
  unfold scmE at h
  split at h
  · rename_i h0
    split at h
    · simp at h
    · exact ⟨checkE_zero h0, by omega, fun i b hb => bndE_zero (by simpa using bndsE_zero h i b hb)⟩
  · rename_i h0; exact absurd h h0
theorem ScmOk.mem {s : Scm} (h : ScmOk s) {b : Bnd} (hb : b ∈ s.bonds) : 0 ≤ kFind s.kinds b.src ∧ 0 ≤ kFind s.kinds b.dst := by
  obtain ⟨i, hi⟩ := List.mem_iff_getElem?.1 hb
  exact ⟨(h.b i b hi).src, (h.b i b hi).dst⟩

/-! ### A change of a schema -/
def cdoE (s : Scm) (c : Chg) : Int := if (scmE s).2 = 0 then (if chgE s c = 0 then (scmE (chgS s c)).2 else chgE s c) else (scmE s).2
def cdoS (s : Scm) (c : Chg) : Scm := if cdoE s c = 0 then chgS s c else ⟨[], []⟩
theorem cdoE_zero {s : Scm} {c : Chg} (h : cdoE s c = 0) : (scmE s).2 = 0 ∧ chgE s c = 0 ∧ (scmE (chgS s c)).2 = 0 := by
  unfold cdoE at h
  split at h
  · split at h
    · exact ⟨by assumption, by assumption, h⟩
    · rename_i h1; exact absurd h h1
  · rename_i h1; exact absurd h h1
theorem doE_mk {s : Scm} {c : Chg} (h1 : (scmE s).2 = 0) (h2 : chgE s c = 0) (h3 : (scmE (chgS s c)).2 = 0) : cdoE s c = 0 := by
  unfold cdoE; rw [if_pos h1, if_pos h2]; exact h3
/-- Changed back it is as it was. -/
def Back (s : Scm) (c c' : Chg) : Prop := cdoE (chgS s c) c' = 0 ∧ cdoS (chgS s c) c' = s
theorem back_mk {s : Scm} {c c' : Chg} (h : cdoE s c = 0) (h1 : chgE (chgS s c) c' = 0) (h2 : chgS (chgS s c) c' = s) : Back s c c' := by
  obtain ⟨a1, a2, a3⟩ := cdoE_zero h
  have h3 : cdoE (chgS s c) c' = 0 := doE_mk a3 h1 (by rw [h2]; exact a1)
  exact ⟨h3, by unfold cdoS; rw [if_pos h3, h2]⟩
def kz : Knd := ⟨.empty, [], []⟩
def bz : Bnd := ⟨.empty, .empty, .empty, 0, 0⟩
def fz : Fld := ⟨.empty, 0, false, false⟩
def vz : Val := ⟨0, 0, .empty⟩
theorem take_drop_one {D : Type} (l : List D) (a : D) : (l ++ [a]).take l.length ++ (l ++ [a]).drop (l.length + 1) = l := by
  rw [List.take_left, List.drop_of_length_le (by simp), List.append_nil]
theorem back_kind {s : Scm} {c : Chg} (h : cdoE s c = 0) (hw : c.what = 1) : Back s c ⟨2, c.kind.name, kz, bz, fz, vz, .empty⟩ := by
  obtain ⟨a1, a2, a3⟩ := cdoE_zero h
  have hS : chgS s c = ⟨s.kinds ++ [c.kind], s.bonds⟩ := by unfold chgS; rw [if_pos hw]; rfl
  rw [hS] at a3
  have o1 := scmE_zero a1
  have hwf : Wf (s.kinds ++ [c.kind]) := (scmE_zero a3).r.wf
  have hne : ∀ (j : Nat) x, j < s.kinds.length → (s.kinds ++ [c.kind])[j]? = some x → x.name ≠ c.kind.name := fun j x hj hx => (hwf s.kinds.length c.kind (by simp)).1 j x hj hx
  have hk : kFind (s.kinds ++ [c.kind]) c.kind.name = (s.kinds.length : Nat) := idxI_hit (d := c.kind) (fun j x hj hx => by simpa using hne j x hj hx) (by simp) (by simp)
  have hsrc : ∀ nm, 0 ≤ kFind s.kinds nm → nm ≠ c.kind.name := fun nm hn e => by
    obtain ⟨i, k, _, h2, h3, _⟩ := kFind_pos hn
    have hi := (List.getElem?_eq_some_iff.1 h2).1
    exact hne i k hi (by rw [List.getElem?_append_left hi]; exact h2) (h3.trans e)
  have hu : usedB ⟨s.kinds ++ [c.kind], s.bonds⟩ c.kind.name = false := by
    unfold usedB
    rw [Bool.or_eq_false_iff]
    constructor
    · rw [List.any_eq_false]
      intro k hk hc
      obtain ⟨y, hy, he⟩ := List.any_eq_true.1 hc
      have he' : c.kind.name = y := by simpa using he
      obtain ⟨i, hi⟩ := List.mem_iff_getElem?.1 hk
      obtain ⟨j, x, hj, hx, hn⟩ := (hwf i k hi).2 y hy
      have hil := (List.getElem?_eq_some_iff.1 hi).1
      simp at hil
      exact hne j x (by omega) hx (hn.trans he'.symm)
    · rw [List.any_eq_false]
      intro b hb
      obtain ⟨q1, q2⟩ := o1.mem hb
      simp [hsrc _ q1, hsrc _ q2]
  refine back_mk h ?_ ?_
  · rw [hS]
    show (if ((2 : Int) = 1 ∨ (2 : Int) = 5) then (0 : Int) else if (2 : Int) = 2 then dropE ⟨s.kinds ++ [c.kind], s.bonds⟩ c.kind.name else _) = 0
    rw [if_neg (by omega), if_pos rfl]
    unfold dropE
    rw [hu, show (⟨s.kinds ++ [c.kind], s.bonds⟩ : Scm).kinds = s.kinds ++ [c.kind] from rfl, hk, if_neg (by omega)]
    rfl
  · rw [hS]
    show (if (2 : Int) = 1 then _ else if (2 : Int) = 5 then _ else if (2 : Int) = 2 then dropS ⟨s.kinds ++ [c.kind], s.bonds⟩ c.kind.name else _) = s
    rw [if_neg (by omega), if_neg (by omega), if_pos rfl]
    unfold dropS
    rw [show (⟨s.kinds ++ [c.kind], s.bonds⟩ : Scm).kinds = s.kinds ++ [c.kind] from rfl, hk, Int.toNat_natCast, take_drop_one]
theorem back_bond {s : Scm} {c : Chg} (h : cdoE s c = 0) (hw : c.what = 5) : Back s c ⟨6, c.bond.name, kz, bz, fz, vz, .empty⟩ := by
  obtain ⟨a1, a2, a3⟩ := cdoE_zero h
  have hS : chgS s c = ⟨s.kinds, s.bonds ++ [c.bond]⟩ := by unfold chgS; rw [if_neg (by omega), if_pos hw]; rfl
  rw [hS] at a3
  have hb := (scmE_zero a3).b s.bonds.length c.bond (by simp)
  have hk : bFind (s.bonds ++ [c.bond]) c.bond.name = (s.bonds.length : Nat) := idxI_hit (d := c.bond) (fun j x hj hx => by
    rw [List.getElem?_append_left hj] at hx
    have hn := hb.new
    rw [show (⟨s.kinds, s.bonds ++ [c.bond]⟩ : Scm).bonds = s.bonds ++ [c.bond] from rfl, List.take_left] at hn
    simpa using bFind_neg hn x (List.mem_of_getElem? hx)) (by simp) (by simp)
  refine back_mk h ?_ ?_
  · rw [hS]
    show (if ((6 : Int) = 1 ∨ (6 : Int) = 5) then (0 : Int) else if (6 : Int) = 2 then _ else if (6 : Int) = 3 ∨ (6 : Int) = 4 ∨ (6 : Int) = 7 then _ else if (6 : Int) = 6 ∨ (6 : Int) = 8 then bondsE ⟨s.kinds, s.bonds ++ [c.bond]⟩ ⟨6, c.bond.name, kz, bz, fz, vz, .empty⟩ else _) = 0
    rw [if_neg (by omega), if_neg (by omega), if_neg (by omega), if_pos (by omega)]
    show (if bFind (s.bonds ++ [c.bond]) c.bond.name < 0 then (5 : Int) else 0) = 0
    rw [hk, if_neg (by omega)]
  · rw [hS]
    show (if (6 : Int) = 1 then _ else if (6 : Int) = 5 then _ else if (6 : Int) = 2 then _ else if (6 : Int) = 3 ∨ (6 : Int) = 4 ∨ (6 : Int) = 7 then _ else bondsS ⟨s.kinds, s.bonds ++ [c.bond]⟩ ⟨6, c.bond.name, kz, bz, fz, vz, .empty⟩) = s
    rw [if_neg (by omega), if_neg (by omega), if_neg (by omega), if_neg (by omega)]
    unfold bondsS
    simp only [hk, Int.toNat_natCast]
    rw [show (s.bonds ++ [c.bond])[s.bonds.length]? = some c.bond by simp]
    simp only [if_true, take_drop_one]
theorem cpos_add (fs : List Fld) (f : Fld) : cpos (addF fs f) f.name = cpos fs f.name ∧ chas (addF fs f) f.name = true ∧ delF (addF fs f) f.name = fs ∧ (addF fs f)[cpos fs f.name]? = some f := by
  have hle : cpos fs f.name ≤ fs.length := lowI_le _ _
  have hlt : (fs.take (cpos fs f.name)).length = cpos fs f.name := by rw [List.length_take]; omega
  have hat : (addF fs f)[cpos fs f.name]? = some f := by
    unfold addF
    rw [List.getElem?_append_right (by omega), hlt, Nat.sub_self]; rfl
  have h1 : cpos (addF fs f) f.name = cpos fs f.name := by
    refine low_eq (c := fldC f.name) (fun i d hi hd => ?_) ?_ (fun d hd => ?_)
    · unfold addF at hd
      rw [List.getElem?_append_left (by omega), List.getElem?_take, if_pos hi] at hd
      exact low_lt hi hd
    · unfold addF; simp; omega
    · rw [hat] at hd; injection hd with hd; subst hd
      unfold fldC; rw [cmpS_zero.2 rfl]; omega
  refine ⟨h1, ?_, ?_, hat⟩
  · unfold chas eqAt
    rw [h1, hat]
    show (fldC f.name f == 0) = true
    unfold fldC; rw [cmpS_zero.2 rfl]; rfl
  · unfold delF
    rw [h1]
    unfold addF
    rw [List.take_append_of_le_length (by omega), List.take_take, Nat.min_self, List.drop_append, hlt, show cpos fs f.name + 1 - cpos fs f.name = 1 by omega, List.drop_of_length_le (by omega)]
    simp
theorem kFind_set {l : List Knd} {i : Nat} {s : ByteArray} {k : Knd} (h : kFind l s = i) (hk : l[i]? = some k) (fs : List Fld) : kFind (l.set i ⟨k.name, k.ofs, fs⟩) s = i := by
  obtain ⟨i', k', h1, h2, h3, h4⟩ := kFind_pos (by omega : 0 ≤ kFind l s)
  obtain rfl : i' = i := by omega
  obtain rfl : k = k' := by rw [hk] at h2; exact Option.some.inj h2
  exact idxI_hit (fun j x hj hx => by
    rw [List.getElem?_set, if_neg (by omega)] at hx
    simpa using h4 j x hj hx) (by rw [List.getElem?_set_self (List.getElem?_eq_some_iff.1 hk).1]) (by simp [h3])
theorem setF_kind {s : Scm} {i : Nat} {d : Knd} (fs : List Fld) (hd : s.kinds[i]? = some d) : (setF s i d fs).kinds[i]? = some ⟨d.name, d.ofs, fs⟩ := by
  show (s.kinds.set i ⟨d.name, d.ofs, fs⟩)[i]? = _
  rw [List.getElem?_set_self (List.getElem?_eq_some_iff.1 hd).1]
theorem setF_back {s : Scm} {i : Nat} {d : Knd} (fs : List Fld) (hd : s.kinds[i]? = some d) : setF (setF s i d fs) i ⟨d.name, d.ofs, fs⟩ d.fields = s := by
  unfold setF
  simp only [List.set_set]
  rw [set_same hd]
theorem fieldsE_at {s : Scm} {c : Chg} {i : Nat} {d : Knd} (h : kFind s.kinds c.name = i) (hd : s.kinds[i]? = some d) : fieldsE s c = fldE2 d c ∧ fieldsS s c = setF s i d (fldF2 d c) := by
  unfold fieldsE fieldsS
  rw [h, Int.toNat_natCast, hd]
  exact ⟨if_neg (show ¬ ((i : Int) < 0) by omega), rfl⟩
theorem fieldsE_get {s : Scm} {c : Chg} (h : fieldsE s c = 0) : ∃ (i : Nat) (d : Knd), kFind s.kinds c.name = i ∧ s.kinds[i]? = some d ∧ fldE2 d c = 0 := by
  rcases kFind_cases s.kinds c.name with hn | ⟨i, d, h1, h2⟩
  · exfalso
    unfold fieldsE at h
    split at h
    · rw [if_pos hn] at h; omega
    · omega
  · exact ⟨i, d, h1, h2, by rw [← (fieldsE_at h1 h2).1]; exact h⟩
theorem chgE_flds {s : Scm} {c : Chg} (hw : c.what = 3 ∨ c.what = 4 ∨ c.what = 7) : chgE s c = fieldsE s c ∧ chgS s c = fieldsS s c := by
  constructor
  · unfold chgE
    rw [if_neg (show ¬ (c.what = 1 ∨ c.what = 5) by omega), if_neg (show ¬ c.what = 2 by omega), if_pos hw]
  · unfold chgS
    rw [if_neg (show ¬ c.what = 1 by omega), if_neg (show ¬ c.what = 5 by omega), if_neg (show ¬ c.what = 2 by omega), if_pos hw]
theorem back_field {s : Scm} {c : Chg} (h : cdoE s c = 0) (hw : c.what = 3) : Back s c ⟨4, c.name, kz, bz, c.fld, vz, .empty⟩ := by
  obtain ⟨a1, a2, a3⟩ := cdoE_zero h
  obtain ⟨e1, e2⟩ := chgE_flds (s := s) (c := c) (.inl hw)
  rw [e1] at a2
  obtain ⟨i, d, h1, h2, h3⟩ := fieldsE_get a2
  have hS : chgS s c = setF s i d (addF d.fields c.fld) := by
    rw [e2, (fieldsE_at h1 h2).2]; unfold fldF2; rw [if_pos hw]
  obtain ⟨q1, q2, q3, _⟩ := cpos_add d.fields c.fld
  have g1 : kFind (setF s i d (addF d.fields c.fld)).kinds c.name = i := kFind_set h1 h2 _
  have g2 := setF_kind (addF d.fields c.fld) h2
  obtain ⟨f1, f2⟩ := chgE_flds (s := chgS s c) (c := ⟨4, c.name, kz, bz, c.fld, vz, .empty⟩) (.inr (.inl rfl))
  obtain ⟨k1, k2⟩ := fieldsE_at (s := setF s i d (addF d.fields c.fld)) (c := ⟨4, c.name, kz, bz, c.fld, vz, .empty⟩) g1 g2
  refine back_mk h ?_ ?_
  · rw [f1, hS, k1]
    unfold fldE2
    simp only [q2]
    rfl
  · rw [f2, hS, k2]
    have : fldF2 ⟨d.name, d.ofs, addF d.fields c.fld⟩ ⟨4, c.name, kz, bz, c.fld, vz, .empty⟩ = d.fields := by
      unfold fldF2
      rw [if_neg (by simp), if_neg (by simp)]
      exact q3
    rw [this, setF_back _ h2]
theorem back_ren {s : Scm} {c : Chg} (h : cdoE s c = 0) (hw : c.what = 7) : Back s c ⟨7, c.name, kz, bz, ⟨c.tow, 0, false, false⟩, vz, c.fld.name⟩ := by
  obtain ⟨a1, a2, a3⟩ := cdoE_zero h
  obtain ⟨e1, e2⟩ := chgE_flds (s := s) (c := c) (.inr (.inr hw))
  rw [e1] at a2
  obtain ⟨i, d, h1, h2, h3⟩ := fieldsE_get a2
  have hre : renE d.fields c.fld.name c.tow = 0 := by
    unfold fldE2 at h3; rw [if_neg (by omega), if_pos hw] at h3; exact h3
  have hS : chgS s c = setF s i d (renF d.fields c.fld.name c.tow) := by
    rw [e2, (fieldsE_at h1 h2).2]; unfold fldF2; rw [if_neg (by omega), if_pos hw]
  obtain ⟨n1, n2, n3⟩ := (scmE_zero a1).r.flds (List.mem_of_getElem? h2)
  generalize hfs : d.fields = fs at *
  generalize hnm : c.fld.name = nm at *
  generalize hto : c.tow = tow at *
  -- what the first renaming says
  have hh : chas fs nm = true ∧ nameE tow = 0 ∧ chas fs tow = false := by
    unfold renE at hre
    cases hc1 : chas fs nm with
    | false => rw [hc1] at hre; simp at hre
    | true =>
      rw [hc1, if_pos rfl] at hre
      by_cases hn : nameE tow = 0
      · rw [if_pos hn] at hre
        cases hc2 : chas fs tow with
        | true => rw [hc2] at hre; simp at hre
        | false => exact ⟨rfl, hn, rfl⟩
      · rw [if_neg hn] at hre; exact absurd hre hn
  obtain ⟨hn1, hn2, hn3⟩ := hh
  obtain ⟨f, hf⟩ := chas_some hn1
  have hfn : f.name = nm := by
    have := hn1
    unfold chas eqAt at this
    rw [hf] at this
    have hz : fldC nm f = 0 := by simpa using this
    exact cmpS_zero.1 hz
  have hpl := (List.getElem?_eq_some_iff.1 hf).1
  have hren : renF fs nm tow = addF (delF fs nm) ⟨tow, f.ty, f.must, f.key⟩ := by unfold renF; rw [hf]
  obtain ⟨q1, q2, q3, q4⟩ := cpos_add (delF fs nm) ⟨tow, f.ty, f.must, f.key⟩
  have hne : nm ≠ tow := fun e => by rw [e, hn3] at hn1; cases hn1
  -- the old name is free
  have hfree : chas (renF fs nm tow) nm = false := by
    cases hc : chas (renF fs nm tow) nm with
    | false => rfl
    | true =>
      exfalso
      obtain ⟨g, hg⟩ := chas_some hc
      have hgn : g.name = nm := by
        unfold chas eqAt at hc
        rw [hg] at hc
        have hz : fldC nm g = 0 := by simpa using hc
        exact cmpS_zero.1 hz
      have hm := List.mem_of_getElem? hg
      rw [hren] at hm
      unfold addF at hm
      have hm2 : g ∈ delF fs nm ∨ g = ⟨tow, f.ty, f.must, f.key⟩ := by
        rcases List.mem_append.1 hm with h | h
        · exact .inl (List.mem_of_mem_take h)
        · rcases List.mem_cons.1 h with h | h
          · exact .inr h
          · exact .inl (List.mem_of_mem_drop h)
      rcases hm2 with hm2 | hm2
      · unfold delF at hm2
        have hpw := n2
        have hsplit : fs = fs.take (cpos fs nm) ++ f :: fs.drop (cpos fs nm + 1) := by
          obtain ⟨hl, hx⟩ := List.getElem?_eq_some_iff.1 hf
          rw [← hx, List.getElem_cons_drop, List.take_append_drop]
        unfold Rise at hpw
        rw [hsplit, List.pairwise_append] at hpw
        obtain ⟨p1, p2, p3⟩ := hpw
        rw [List.pairwise_cons] at p2
        rcases List.mem_append.1 hm2 with h | h
        · have := p3 g h f (by simp)
          rw [hgn, hfn, cmpS_zero.2 rfl] at this; omega
        · have := p2.1 g h
          rw [hgn, hfn, cmpS_zero.2 rfl] at this; omega
      · rw [hm2] at hgn; exact hne hgn.symm
  -- where the old name goes
  have hX : cpos (delF fs nm) nm = cpos fs nm := by
    have htl : (fs.take (cpos fs nm)).length = cpos fs nm := by rw [List.length_take]; omega
    refine low_eq (c := fldC nm) (fun j x hj hx => ?_) ?_ (fun x hx => ?_)
    · unfold delF at hx
      rw [List.getElem?_append_left (by omega), List.getElem?_take, if_pos hj] at hx
      exact low_lt hj hx
    · unfold delF; simp; omega
    · unfold delF at hx
      rw [List.getElem?_append_right (by omega), htl, List.getElem?_drop] at hx
      exact low_ge (rise_chain n2) (fldC_mono nm) (i := cpos fs nm + 1 + (cpos fs nm - cpos fs nm)) (by show cpos fs nm ≤ _; omega) hx
  have hback : renF (renF fs nm tow) tow nm = fs := by
    have hat : (renF fs nm tow)[cpos (renF fs nm tow) tow]? = some ⟨tow, f.ty, f.must, f.key⟩ := by
      rw [hren]; show (addF _ _)[cpos (addF (delF fs nm) ⟨tow, f.ty, f.must, f.key⟩) (⟨tow, f.ty, f.must, f.key⟩ : Fld).name]? = _
      rw [q1]; exact q4
    have hdel : delF (renF fs nm tow) tow = delF fs nm := by rw [hren]; exact q3
    have hst : renF (renF fs nm tow) tow nm = addF (delF fs nm) ⟨nm, f.ty, f.must, f.key⟩ := by
      show (match (renF fs nm tow)[cpos (renF fs nm tow) tow]? with | some f => addF (delF (renF fs nm tow) tow) ⟨nm, f.ty, f.must, f.key⟩ | none => renF fs nm tow) = _
      rw [hat, hdel]
    rw [hst]
    have hfe : (⟨nm, f.ty, f.must, f.key⟩ : Fld) = f := by rw [← hfn]
    rw [hfe]
    unfold addF
    rw [hfn, hX]
    have htl : (fs.take (cpos fs nm)).length = cpos fs nm := by rw [List.length_take]; omega
    unfold delF
    rw [List.take_append_of_le_length (by omega), List.take_take, Nat.min_self, List.drop_append, htl, Nat.sub_self, List.drop_of_length_le (by omega), List.drop_zero, List.nil_append]
    obtain ⟨hl, hx⟩ := List.getElem?_eq_some_iff.1 hf
    conv => lhs; rw [← hx]
    rw [List.getElem_cons_drop, List.take_append_drop]
  have g1 : kFind (setF s i d (renF fs nm tow)).kinds c.name = i := kFind_set h1 h2 _
  have g2 := setF_kind (renF fs nm tow) h2
  obtain ⟨f1, f2⟩ := chgE_flds (s := chgS s c) (c := ⟨7, c.name, kz, bz, ⟨tow, 0, false, false⟩, vz, nm⟩) (.inr (.inr rfl))
  obtain ⟨k1, k2⟩ := fieldsE_at (s := setF s i d (renF fs nm tow)) (c := ⟨7, c.name, kz, bz, ⟨tow, 0, false, false⟩, vz, nm⟩) g1 g2
  refine back_mk h ?_ ?_
  · rw [f1, hS, k1]
    unfold fldE2
    rw [if_neg (by simp), if_pos rfl]
    show renE (renF fs nm tow) tow nm = 0
    unfold renE
    have hx2 : chas (renF fs nm tow) tow = true := by rw [hren]; exact q2
    have hx3 : nameE nm = 0 := by rw [← hfn]; exact n1 f (List.mem_of_getElem? hf)
    rw [hx2, if_pos rfl, if_pos hx3, hfree]; rfl
  · rw [f2, hS, k2]
    have : fldF2 ⟨d.name, d.ofs, renF fs nm tow⟩ ⟨7, c.name, kz, bz, ⟨tow, 0, false, false⟩, vz, nm⟩ = d.fields := by
      unfold fldF2
      rw [if_neg (by simp), if_pos rfl, hfs]
      exact hback
    rw [this, setF_back _ h2]
end Go.Proofs.YthefofclbepkoaaDoor

/- Plain: what of a schema is not in another one just so; which one is as wide. No condition. -/
namespace Go.Proofs.YthefofclbepkoaaDoor

def eqK (a b : Knd) : Bool := decide (a.ofs = b.ofs) && decide (a.fields = b.fields)
def lostK (l : List Knd) (k : Knd) : Bool := match l[(kFind l k.name).toNat]? with | some d => decide (kFind l k.name < 0) || !eqK k d | none => true
def lostB (l : List Bnd) (x : Bnd) : Bool := !(l.any fun y => decide (x = y))
def losesL (a b : Scm) : List ByteArray := (a.kinds.filter (lostK b.kinds)).map (·.name) ++ (a.bonds.filter (lostB b.bonds)).map (·.name)
def bothE (a b : Scm) : Int := if (scmE a).2 = 0 then (scmE b).2 else (scmE a).2
def losesR (a b : Scm) : List ByteArray := if bothE a b = 0 then losesL a b else []
def fFind (l : List Fld) (nm : ByteArray) : Int := idxI (fun f => decide (f.name = nm)) l
def okF (b : List Fld) (f : Fld) : Bool := match b[(fFind b f.name).toNat]? with | some d => !(decide (fFind b f.name < 0)) && decide (d.ty = f.ty) && !(d.must && !f.must) && !(d.key && !f.key) | none => false
def fieldsW (a b : List Fld) : Bool := a.all (okF b) && !(b.any fun f => f.must && decide (fFind a f.name < 0))
def kindW (l : List Knd) (k : Knd) : Bool := match l[(kFind l k.name).toNat]? with | some d => !(decide (kFind l k.name < 0)) && decide (k.ofs = d.ofs) && fieldsW k.fields d.fields | none => false
def bondW1 (a b : Bnd) : Bool := decide (a.src = b.src) && decide (a.dst = b.dst) && decide (b.mn ≤ a.mn) && (decide (b.mx = -1) || (!decide (a.mx = -1) && decide (a.mx ≤ b.mx)))
def bondW (l : List Bnd) (x : Bnd) : Bool := match l[(bFind l x.name).toNat]? with | some d => !(decide (bFind l x.name < 0)) && bondW1 x d | none => false
def widerB (a b : Scm) : Bool := a.kinds.all (kindW b.kinds) && a.bonds.all (bondW b.bonds) && !(b.bonds.any fun x => decide (bFind a.bonds x.name < 0) && decide (0 < x.mn))
def widerR (a b : Scm) : Bool := if bothE a b = 0 then widerB a b else false

theorem kFind_self {l : List Knd} (hw : Wf l) {i : Nat} {k : Knd} (hk : l[i]? = some k) : kFind l k.name = i := by
  exact idxI_hit (fun j x hj hx => by simpa using (hw i k hk).1 j x hj hx) hk (by simp)
/-- No two bonds of one name. -/
def BDist (l : List Bnd) : Prop := ∀ (i j : Nat) a b, j < i → l[i]? = some a → l[j]? = some b → b.name ≠ a.name
theorem ScmOk.bdist {s : Scm} (h : ScmOk s) : BDist s.bonds := fun i j a b hj hi hb =>
  bFind_neg (h.b i a hi).new b (List.mem_of_getElem? (by rw [List.getElem?_take, if_pos hj]; exact hb))
theorem bFind_self {l : List Bnd} (hd : BDist l) {i : Nat} {k : Bnd} (hk : l[i]? = some k) : bFind l k.name = i :=
  idxI_hit (fun j x hj hx => by simpa using hd i j k x hj hk hx) hk (by simp)
theorem loses_self {s : Scm} (h : ScmOk s) : losesL s s = [] := by
  unfold losesL
  have h1 : s.kinds.filter (lostK s.kinds) = [] := by
    rw [List.filter_eq_nil_iff]
    intro k hk
    obtain ⟨i, hi⟩ := List.mem_iff_getElem?.1 hk
    unfold lostK
    rw [kFind_self h.r.wf hi, Int.toNat_natCast, hi]
    simp [eqK]
  have h2 : s.bonds.filter (lostB s.bonds) = [] := by
    rw [List.filter_eq_nil_iff]
    intro b hb
    unfold lostB
    have : (s.bonds.any fun y => decide (b = y)) = true := List.any_eq_true.2 ⟨b, hb, by simp⟩
    simp [this]
  rw [h1, h2]; rfl
/-- A bond that is dropped is lost, and it is less wide. -/
theorem drop_lost {s : Scm} {nm : ByteArray} (h : cdoE s ⟨6, nm, kz, bz, fz, vz, .empty⟩ = 0) : nm ∈ losesL s (cdoS s ⟨6, nm, kz, bz, fz, vz, .empty⟩) ∧ widerB s (cdoS s ⟨6, nm, kz, bz, fz, vz, .empty⟩) = false := by
  obtain ⟨a1, a2, a3⟩ := cdoE_zero h
  have hok := scmE_zero a1
  have hd := hok.bdist
  have hE : bondsE s ⟨6, nm, kz, bz, fz, vz, .empty⟩ = 0 := by
    have e : chgE s ⟨6, nm, kz, bz, fz, vz, .empty⟩ = bondsE s ⟨6, nm, kz, bz, fz, vz, .empty⟩ := by
      unfold chgE
      rw [if_neg (by simp), if_neg (by simp), if_neg (by simp), if_pos (.inl rfl)]
    rw [← e]; exact a2
  have hn : 0 ≤ bFind s.bonds nm := by
    unfold bondsE at hE
    split at hE
    · omega
    · rename_i hx; simpa using hx
  obtain ⟨i, b, h1, h2, h3, _⟩ := bFind_pos hn
  have hil := (List.getElem?_eq_some_iff.1 h2).1
  have hS : cdoS s ⟨6, nm, kz, bz, fz, vz, .empty⟩ = ⟨s.kinds, s.bonds.take i ++ s.bonds.drop (i + 1)⟩ := by
    unfold cdoS
    rw [if_pos h]
    unfold chgS
    rw [if_neg (by simp), if_neg (by simp), if_neg (by simp), if_neg (by simp)]
    unfold bondsS
    simp only [h1, Int.toNat_natCast, h2]
    rw [if_pos trivial]
  rw [hS]
  have hno : ∀ y ∈ s.bonds.take i ++ s.bonds.drop (i + 1), y.name ≠ nm := fun y hy e => by
    rcases List.mem_append.1 hy with hm | hm
    · obtain ⟨j, hj⟩ := List.mem_iff_getElem?.1 hm
      rw [List.getElem?_take] at hj
      split at hj
      · exact hd i j b y (by assumption) h2 hj (e.trans h3.symm)
      · cases hj
    · obtain ⟨j, hj⟩ := List.mem_iff_getElem?.1 hm
      rw [List.getElem?_drop] at hj
      exact hd (i + 1 + j) i y b (by omega) hj h2 (h3.trans e.symm)
  have hb : b ∈ s.bonds := List.mem_of_getElem? h2
  refine ⟨?_, ?_⟩
  · unfold losesL
    refine List.mem_append.2 (.inr (List.mem_map.2 ⟨b, List.mem_filter.2 ⟨hb, ?_⟩, h3⟩))
    unfold lostB
    have : ((s.bonds.take i ++ s.bonds.drop (i + 1)).any fun y => decide (b = y)) = false := by
      rw [List.any_eq_false]
      intro y hy
      have := hno y hy
      simp only [decide_eq_true_eq]
      intro e
      rw [← e] at this
      exact this h3
    show (!((s.bonds.take i ++ s.bonds.drop (i + 1)).any fun y => decide (b = y))) = true
    rw [this]; rfl
  · have hf : bFind (s.bonds.take i ++ s.bonds.drop (i + 1)) b.name < 0 := by
      rcases Int.lt_or_le (bFind (s.bonds.take i ++ s.bonds.drop (i + 1)) b.name) 0 with hlt | hge
      · exact hlt
      · obtain ⟨j, y, _, hy, hny, _⟩ := bFind_pos hge
        exact absurd (hny.trans h3) (hno y (List.mem_of_getElem? hy))
    have hw : bondW (s.bonds.take i ++ s.bonds.drop (i + 1)) b = false := by
      unfold bondW
      split
      · simp [hf]
      · rfl
    have : s.bonds.all (bondW (s.bonds.take i ++ s.bonds.drop (i + 1))) = false := by
      rw [List.all_eq_false]
      exact ⟨b, hb, by simp [hw]⟩
    unfold widerB
    simp [this]
end Go.Proofs.YthefofclbepkoaaDoor

/- Plain: what a schema loses, and whether it is as wide, as the document says it: the same. No condition. -/
namespace Go.Proofs.YthefofclbepkoaaDoor

/-- A bond of that name is not there, or it is another one. -/
def lostB2 (l : List Bnd) (x : Bnd) : Bool := match l[(bFind l x.name).toNat]? with | some d => decide (bFind l x.name < 0) || !decide (x = d) | none => true
theorem lostB2_eq {l : List Bnd} (hd : BDist l) (x : Bnd) : lostB2 l x = lostB l x := by
  unfold lostB2 lostB
  by_cases hn : bFind l x.name < 0
  · have h1 : (l.any fun y => decide (x = y)) = false := by
      rw [List.any_eq_false]
      intro y hy
      simp only [decide_eq_true_eq]
      intro e
      exact bFind_neg hn y hy (by rw [e])
    rw [h1]
    split
    · simp [hn]
    · rfl
  · obtain ⟨i, d, h1, h2, h3, _⟩ := bFind_pos (by omega : 0 ≤ bFind l x.name)
    rw [h1, Int.toNat_natCast, h2]
    have h4 : decide ((i : Int) < 0) = false := decide_eq_false (by omega)
    simp only [h4, Bool.false_or]
    congr 1
    rw [Bool.eq_iff_iff, List.any_eq_true, decide_eq_true_eq]
    constructor
    · rintro rfl
      exact ⟨x, List.mem_of_getElem? h2, by simp⟩
    · rintro ⟨y, hy, e⟩
      have e := of_decide_eq_true e
      subst e
      obtain ⟨j, hj⟩ := List.mem_iff_getElem?.1 hy
      rcases Nat.lt_trichotomy i j with h | h | h
      · exact absurd h3 (hd j i x d h hj h2)
      · subst h; rw [h2] at hj; injection hj with e; exact e.symm
      · exact absurd h3.symm (hd i j d x h h2 hj)
def losesS (a b : Scm) : List ByteArray := (a.kinds.filter (lostK b.kinds)).map (·.name) ++ (a.bonds.filter (lostB2 b.bonds)).map (·.name)
theorem losesS_eq {a b : Scm} (h : ScmOk b) : losesS a b = losesL a b := by
  unfold losesS losesL
  have : lostB2 b.bonds = lostB b.bonds := funext (lostB2_eq h.bdist)
  rw [this]
/-- A bond is as wide, as the document says it. -/
def bondW2 (a b : Bnd) : Bool := decide (a.src = b.src) && decide (a.dst = b.dst) && decide (b.mn ≤ a.mn) && !(decide (0 ≤ b.mx) && (decide (a.mx < 0) || decide (b.mx < a.mx)))
theorem bondW2_eq {a b : Bnd} (ha : -1 ≤ a.mx) (hb : -1 ≤ b.mx) : bondW2 a b = bondW1 a b := by
  unfold bondW2 bondW1
  congr 1
  by_cases h1 : b.mx = -1
  · have e1 : decide (b.mx = -1) = true := decide_eq_true h1
    have e2 : decide (0 ≤ b.mx) = false := decide_eq_false (by omega)
    rw [e1, e2]; rfl
  · have e1 : decide (b.mx = -1) = false := decide_eq_false h1
    have e2 : decide (0 ≤ b.mx) = true := decide_eq_true (by omega)
    rw [e1, e2]
    by_cases h2 : a.mx = -1
    · have e3 : decide (a.mx = -1) = true := decide_eq_true h2
      have e4 : decide (a.mx < 0) = true := decide_eq_true (by omega)
      rw [e3, e4]; rfl
    · have e3 : decide (a.mx = -1) = false := decide_eq_false h2
      have e4 : decide (a.mx < 0) = false := decide_eq_false (by omega)
      rw [e3, e4]
      by_cases h3 : a.mx ≤ b.mx
      · have e5 : decide (a.mx ≤ b.mx) = true := decide_eq_true h3
        have e6 : decide (b.mx < a.mx) = false := decide_eq_false (by omega)
        rw [e5, e6]; rfl
      · have e5 : decide (a.mx ≤ b.mx) = false := decide_eq_false h3
        have e6 : decide (b.mx < a.mx) = true := decide_eq_true (by omega)
        rw [e5, e6]; rfl
theorem rng_mx {b : Bnd} (h : ¬ rngB b) : -1 ≤ b.mx := by
  unfold rngB at h
  by_cases h1 : b.mx = -1
  · omega
  · simp only [not_or] at h
    have h3 : ¬ (b.mx < b.mn ∨ 20 < b.mx) := fun h4 => h.2.2 ⟨h1, h4⟩
    omega
theorem ScmOk.mx {s : Scm} (h : ScmOk s) {b : Bnd} (hb : b ∈ s.bonds) : -1 ≤ b.mx := by
  obtain ⟨i, hi⟩ := List.mem_iff_getElem?.1 hb
  exact rng_mx (h.b i b hi).rng
end Go.Proofs.YthefofclbepkoaaDoor
