/- Parts: ChQ, Letters, CManyP, ChK. -/
import Derived.Test.YtldmofffogjlkaaDoorMg21
import Derived.Test.YtldmofffogjlkaaDoorMg12
import Derived.Test.YtldmofffogjlkaaDoorMg13
import Derived.Test.YtldmofffogjlkaaDoorMg01
import Derived.Test.YtldmofffogjlkaaDoorRows
import Derived.Deep.QuietTactic
import Derived.IntWalk
import Derived.Laws.Rows
import Derived.Deep.DeepCutAuto
/- Plain: a schema that was changed, and changed back, is as it was. No condition. -/
namespace Go.Proofs.YtldmofffogjlkaaDoor

theorem low_eq {D : Type} {c : D → Int} {l : List D} {t : Nat} (hA : ∀ i d, i < t → l[i]? = some d → c d < 0) (ht : t ≤ l.length) (hB : ∀ d, l[t]? = some d → 0 ≤ c d) : lowI c l = t := by
  have hle := lowI_le c l
  rcases Nat.lt_trichotomy (lowI c l) t with h | h | h
  · exfalso
    have hl : lowI c l < l.length := by omega
    have h1 := hA _ _ h (List.getElem?_eq_getElem hl)
    have := List.findIdx_getElem (xs := l) (p := fun d => decide (0 ≤ c d)) (w := hl)
    simp only [decide_eq_true_eq] at this
    have h2 : 0 ≤ c (l[lowI c l]'hl) := this
    omega
  · exact h
  · exfalso
    have hl : t < l.length := by omega
    have h1 := low_lt h (List.getElem?_eq_getElem hl)
    have h2 := hB _ (List.getElem?_eq_getElem hl)
    omega
theorem fldE_zero {p : Option Fld} {f : Fld} (h : fldE p f = 0) : nameE f.name = 0 ∧ ∀ q, p = some q → cmpS q.name f.name < 0 := by
  unfold fldE at h
  split at h
  · rename_i h1
    refine ⟨h1, fun q hq => ?_⟩
    subst hq
    split at h
    · split at h
      · omega
      · simp only at h
        split at h
        · rename_i hl
          rw [ltS_cmp] at hl
          simpa using hl
        · omega
    · omega
  · rename_i h1; exact absurd h h1
theorem fldsE_zero : ∀ {l : List Fld} {p : Option Fld}, fldsE p l = 0 → (∀ f ∈ l, nameE f.name = 0) ∧ Rise l ∧ (∀ q, p = some q → ∀ f ∈ l, cmpS q.name f.name < 0)
  | [], p, _ => ⟨by simp, List.Pairwise.nil, by simp⟩
  | f :: l, p, h => by
    rw [fldsE] at h
    split at h
    · rename_i h0
      obtain ⟨a1, a2⟩ := fldE_zero h0
      obtain ⟨b1, b2, b3⟩ := fldsE_zero h
      refine ⟨fun x hx => ?_, List.Pairwise.cons (fun x hx => b3 f rfl x hx) b2, fun q hq x hx => ?_⟩
      · rcases List.mem_cons.1 hx with rfl | hx
        · exact a1
        · exact b1 x hx
      · rcases List.mem_cons.1 hx with rfl | hx
        · exact a2 q hq
        · exact cmpS_trans (a2 q hq) (b3 f rfl x hx)
    · rename_i h0; exact absurd h h0
theorem Right.flds {l : List Knd} (h : Right l) {d : Knd} (hd : d ∈ l) : (∀ f ∈ d.fields, nameE f.name = 0) ∧ Rise d.fields ∧ d.fields.length ≤ 8 := by
  obtain ⟨i, hi⟩ := List.mem_iff_getElem?.1 hd
  have ho := h.one i d hi
  obtain ⟨h1, h2, _⟩ := fldsE_zero ho.fls
  exact ⟨h1, h2, ho.fll⟩
theorem bndsE_zero {ks : List Knd} : ∀ {r p : List Bnd}, (bndsE ks p r).2 = 0 → ∀ (i : Nat) b, r[i]? = some b → bndE ks (p ++ r.take i) b = 0
  | [], _, _, i, b, h => by simp at h
  | x :: r, p, h, i, b, hb => by
    rw [bndsE] at h
    split at h
    · rename_i h0
      cases i with
      | zero => simp at hb; subst hb; simpa using h0
      | succ i =>
        have := bndsE_zero h i b (by simpa using hb)
        simpa using this
    · rename_i h0; exact absurd h h0
theorem bFind_neg {l : List Bnd} {s : ByteArray} (h : bFind l s < 0) : ∀ k ∈ l, k.name ≠ s := by
  intro k hk e
  have : l.any (fun k => decide (k.name = s)) = true := List.any_eq_true.2 ⟨k, hk, by simpa using e⟩
  rw [← idxI_any] at this
  have h2 : idxI (fun k : Bnd => decide (k.name = s)) l < 0 := h
  simp at this
  omega
theorem bFind_pos {l : List Bnd} {s : ByteArray} (h : 0 ≤ bFind l s) : ∃ (i : Nat) (k : Bnd), bFind l s = i ∧ l[i]? = some k ∧ k.name = s ∧ ∀ j x, j < i → l[j]? = some x → x.name ≠ s := by
  obtain ⟨i, k, h1, h2, h3, h4⟩ := idxI_nonneg h
  exact ⟨i, k, h1, h2, by simpa using h3, fun j x hj hx => by simpa using h4 j x hj hx⟩
structure BndOk (ks : List Knd) (p : List Bnd) (b : Bnd) : Prop where
  nm : nameE b.name = 0
  new : bFind p b.name < 0
  src : 0 ≤ kFind ks b.src
  dst : 0 ≤ kFind ks b.dst
  rng : ¬ rngB b
theorem bndE_zero {ks : List Knd} {p : List Bnd} {b : Bnd} (h : bndE ks p b = 0) : BndOk ks p b := by
  unfold bndE at h
  by_cases h1 : nameE b.name = 0
  · rw [if_pos h1] at h
    by_cases h2 : 0 ≤ bFind p b.name
    · rw [if_pos h2] at h; omega
    rw [if_neg h2] at h
    by_cases h3 : kFind ks b.src < 0 ∨ kFind ks b.dst < 0
    · rw [if_pos h3] at h; omega
    rw [if_neg h3] at h
    by_cases h4 : rngB b
    · rw [if_pos h4] at h; omega
    exact ⟨h1, by omega, by omega, by omega, h4⟩
  · rw [if_neg h1] at h; exact absurd h h1
/-- A schema that is right. -/
structure ScmOk (s : Scm) : Prop where
  r : Right s.kinds
  bl : s.bonds.length ≤ 12
  b : ∀ (i : Nat) b, s.bonds[i]? = some b → BndOk s.kinds (s.bonds.take i) b
theorem scmE_zero {s : Scm} (h : (scmE s).2 = 0) : ScmOk s := by
  unfold scmE at h
  split at h
  · rename_i h0
    split at h
    · simp at h
    · exact ⟨checkE_zero h0, by omega, fun i b hb => bndE_zero (by simpa using bndsE_zero h i b hb)⟩
  · rename_i h0; exact absurd h h0
theorem ScmOk.mem {s : Scm} (h : ScmOk s) {b : Bnd} (hb : b ∈ s.bonds) : 0 ≤ kFind s.kinds b.src ∧ 0 ≤ kFind s.kinds b.dst := by
  obtain ⟨i, hi⟩ := List.mem_iff_getElem?.1 hb
  exact ⟨(h.b i b hi).src, (h.b i b hi).dst⟩

/-! ### A change of a schema -/
def cdoE (s : Scm) (c : Chg) : Int := if (scmE s).2 = 0 then (if chgE s c = 0 then (scmE (chgS s c)).2 else chgE s c) else (scmE s).2
def cdoS (s : Scm) (c : Chg) : Scm := if cdoE s c = 0 then chgS s c else ⟨[], []⟩
theorem cdoE_zero {s : Scm} {c : Chg} (h : cdoE s c = 0) : (scmE s).2 = 0 ∧ chgE s c = 0 ∧ (scmE (chgS s c)).2 = 0 := by
  unfold cdoE at h
  split at h
  · split at h
    · exact ⟨by assumption, by assumption, h⟩
    · rename_i h1; exact absurd h h1
  · rename_i h1; exact absurd h h1
theorem doE_mk {s : Scm} {c : Chg} (h1 : (scmE s).2 = 0) (h2 : chgE s c = 0) (h3 : (scmE (chgS s c)).2 = 0) : cdoE s c = 0 := by
  unfold cdoE; rw [if_pos h1, if_pos h2]; exact h3
/-- Changed back it is as it was. -/
def Back (s : Scm) (c c' : Chg) : Prop := cdoE (chgS s c) c' = 0 ∧ cdoS (chgS s c) c' = s
theorem back_mk {s : Scm} {c c' : Chg} (h : cdoE s c = 0) (h1 : chgE (chgS s c) c' = 0) (h2 : chgS (chgS s c) c' = s) : Back s c c' := by
  obtain ⟨a1, a2, a3⟩ := cdoE_zero h
  have h3 : cdoE (chgS s c) c' = 0 := doE_mk a3 h1 (by rw [h2]; exact a1)
  exact ⟨h3, by unfold cdoS; rw [if_pos h3, h2]⟩
def kz : Knd := ⟨.empty, [], []⟩
def bz : Bnd := ⟨.empty, .empty, .empty, 0, 0⟩
def fz : Fld := ⟨.empty, 0, false, false⟩
def vz : Val := ⟨0, 0, .empty⟩
theorem take_drop_one {D : Type} (l : List D) (a : D) : (l ++ [a]).take l.length ++ (l ++ [a]).drop (l.length + 1) = l := by
  rw [List.take_left, List.drop_of_length_le (by simp), List.append_nil]
theorem back_kind {s : Scm} {c : Chg} (h : cdoE s c = 0) (hw : c.what = 1) : Back s c ⟨2, c.kind.name, kz, bz, fz, vz, .empty⟩ := by
  obtain ⟨a1, a2, a3⟩ := cdoE_zero h
  have hS : chgS s c = ⟨s.kinds ++ [c.kind], s.bonds⟩ := by unfold chgS; rw [if_pos hw]; rfl
  rw [hS] at a3
  have o1 := scmE_zero a1
  have hwf : Wf (s.kinds ++ [c.kind]) := (scmE_zero a3).r.wf
  have hne : ∀ (j : Nat) x, j < s.kinds.length → (s.kinds ++ [c.kind])[j]? = some x → x.name ≠ c.kind.name := fun j x hj hx => (hwf s.kinds.length c.kind (by simp)).1 j x hj hx
  have hk : kFind (s.kinds ++ [c.kind]) c.kind.name = (s.kinds.length : Nat) := idxI_hit (d := c.kind) (fun j x hj hx => by simpa using hne j x hj hx) (by simp) (by simp)
  have hsrc : ∀ nm, 0 ≤ kFind s.kinds nm → nm ≠ c.kind.name := fun nm hn e => by
    obtain ⟨i, k, _, h2, h3, _⟩ := kFind_pos hn
    have hi := (List.getElem?_eq_some_iff.1 h2).1
    exact hne i k hi (by rw [List.getElem?_append_left hi]; exact h2) (h3.trans e)
  have hu : usedB ⟨s.kinds ++ [c.kind], s.bonds⟩ c.kind.name = false := by
    unfold usedB
    rw [Bool.or_eq_false_iff]
    constructor
    · rw [List.any_eq_false]
      intro k hk hc
      obtain ⟨y, hy, he⟩ := List.any_eq_true.1 hc
      have he' : c.kind.name = y := by simpa using he
      obtain ⟨i, hi⟩ := List.mem_iff_getElem?.1 hk
      obtain ⟨j, x, hj, hx, hn⟩ := (hwf i k hi).2 y hy
      have hil := (List.getElem?_eq_some_iff.1 hi).1
      simp at hil
      exact hne j x (by omega) hx (hn.trans he'.symm)
    · rw [List.any_eq_false]
      intro b hb
      obtain ⟨q1, q2⟩ := o1.mem hb
      simp [hsrc _ q1, hsrc _ q2]
  refine back_mk h ?_ ?_
  · rw [hS]
    show (if ((2 : Int) = 1 ∨ (2 : Int) = 5) then (0 : Int) else if (2 : Int) = 2 then dropE ⟨s.kinds ++ [c.kind], s.bonds⟩ c.kind.name else _) = 0
    rw [if_neg (by omega), if_pos rfl]
    unfold dropE
    rw [hu, show (⟨s.kinds ++ [c.kind], s.bonds⟩ : Scm).kinds = s.kinds ++ [c.kind] from rfl, hk, if_neg (by omega)]
    rfl
  · rw [hS]
    show (if (2 : Int) = 1 then _ else if (2 : Int) = 5 then _ else if (2 : Int) = 2 then dropS ⟨s.kinds ++ [c.kind], s.bonds⟩ c.kind.name else _) = s
    rw [if_neg (by omega), if_neg (by omega), if_pos rfl]
    unfold dropS
    rw [show (⟨s.kinds ++ [c.kind], s.bonds⟩ : Scm).kinds = s.kinds ++ [c.kind] from rfl, hk, Int.toNat_natCast, take_drop_one]
theorem back_bond {s : Scm} {c : Chg} (h : cdoE s c = 0) (hw : c.what = 5) : Back s c ⟨6, c.bond.name, kz, bz, fz, vz, .empty⟩ := by
  obtain ⟨a1, a2, a3⟩ := cdoE_zero h
  have hS : chgS s c = ⟨s.kinds, s.bonds ++ [c.bond]⟩ := by unfold chgS; rw [if_neg (by omega), if_pos hw]; rfl
  rw [hS] at a3
  have hb := (scmE_zero a3).b s.bonds.length c.bond (by simp)
  have hk : bFind (s.bonds ++ [c.bond]) c.bond.name = (s.bonds.length : Nat) := idxI_hit (d := c.bond) (fun j x hj hx => by
    rw [List.getElem?_append_left hj] at hx
    have hn := hb.new
    rw [show (⟨s.kinds, s.bonds ++ [c.bond]⟩ : Scm).bonds = s.bonds ++ [c.bond] from rfl, List.take_left] at hn
    simpa using bFind_neg hn x (List.mem_of_getElem? hx)) (by simp) (by simp)
  refine back_mk h ?_ ?_
  · rw [hS]
    show (if ((6 : Int) = 1 ∨ (6 : Int) = 5) then (0 : Int) else if (6 : Int) = 2 then _ else if (6 : Int) = 3 ∨ (6 : Int) = 4 ∨ (6 : Int) = 7 then _ else if (6 : Int) = 6 ∨ (6 : Int) = 8 then bondsE ⟨s.kinds, s.bonds ++ [c.bond]⟩ ⟨6, c.bond.name, kz, bz, fz, vz, .empty⟩ else _) = 0
    rw [if_neg (by omega), if_neg (by omega), if_neg (by omega), if_pos (by omega)]
    show (if bFind (s.bonds ++ [c.bond]) c.bond.name < 0 then (5 : Int) else 0) = 0
    rw [hk, if_neg (by omega)]
  · rw [hS]
    show (if (6 : Int) = 1 then _ else if (6 : Int) = 5 then _ else if (6 : Int) = 2 then _ else if (6 : Int) = 3 ∨ (6 : Int) = 4 ∨ (6 : Int) = 7 then _ else bondsS ⟨s.kinds, s.bonds ++ [c.bond]⟩ ⟨6, c.bond.name, kz, bz, fz, vz, .empty⟩) = s
    rw [if_neg (by omega), if_neg (by omega), if_neg (by omega), if_neg (by omega)]
    unfold bondsS
    simp only [hk, Int.toNat_natCast]
    rw [show (s.bonds ++ [c.bond])[s.bonds.length]? = some c.bond by simp]
    simp only [if_true, take_drop_one]
theorem cpos_add (fs : List Fld) (f : Fld) : cpos (addF fs f) f.name = cpos fs f.name ∧ chas (addF fs f) f.name = true ∧ delF (addF fs f) f.name = fs ∧ (addF fs f)[cpos fs f.name]? = some f := by
  have hle : cpos fs f.name ≤ fs.length := lowI_le _ _
  have hlt : (fs.take (cpos fs f.name)).length = cpos fs f.name := by rw [List.length_take]; omega
  have hat : (addF fs f)[cpos fs f.name]? = some f := by
    unfold addF
    rw [List.getElem?_append_right (by omega), hlt, Nat.sub_self]; rfl
  have h1 : cpos (addF fs f) f.name = cpos fs f.name := by
    refine low_eq (c := fldC f.name) (fun i d hi hd => ?_) ?_ (fun d hd => ?_)
    · unfold addF at hd
      rw [List.getElem?_append_left (by omega), List.getElem?_take, if_pos hi] at hd
      exact low_lt hi hd
    · unfold addF; simp; omega
    · rw [hat] at hd; injection hd with hd; subst hd
      unfold fldC; rw [cmpS_zero.2 rfl]; omega
  refine ⟨h1, ?_, ?_, hat⟩
  · unfold chas eqAt
    rw [h1, hat]
    show (fldC f.name f == 0) = true
    unfold fldC; rw [cmpS_zero.2 rfl]; rfl
  · unfold delF
    rw [h1]
    unfold addF
    rw [List.take_append_of_le_length (by omega), List.take_take, Nat.min_self, List.drop_append, hlt, show cpos fs f.name + 1 - cpos fs f.name = 1 by omega, List.drop_of_length_le (by omega)]
    simp
theorem kFind_set {l : List Knd} {i : Nat} {s : ByteArray} {k : Knd} (h : kFind l s = i) (hk : l[i]? = some k) (fs : List Fld) : kFind (l.set i ⟨k.name, k.ofs, fs⟩) s = i := by
  obtain ⟨i', k', h1, h2, h3, h4⟩ := kFind_pos (by omega : 0 ≤ kFind l s)
  obtain rfl : i' = i := by omega
  obtain rfl : k = k' := by rw [hk] at h2; exact Option.some.inj h2
  exact idxI_hit (fun j x hj hx => by
    rw [List.getElem?_set, if_neg (by omega)] at hx
    simpa using h4 j x hj hx) (by rw [List.getElem?_set_self (List.getElem?_eq_some_iff.1 hk).1]) (by simp [h3])
theorem setF_kind {s : Scm} {i : Nat} {d : Knd} (fs : List Fld) (hd : s.kinds[i]? = some d) : (setF s i d fs).kinds[i]? = some ⟨d.name, d.ofs, fs⟩ := by
  show (s.kinds.set i ⟨d.name, d.ofs, fs⟩)[i]? = _
  rw [List.getElem?_set_self (List.getElem?_eq_some_iff.1 hd).1]
theorem setF_back {s : Scm} {i : Nat} {d : Knd} (fs : List Fld) (hd : s.kinds[i]? = some d) : setF (setF s i d fs) i ⟨d.name, d.ofs, fs⟩ d.fields = s := by
  unfold setF
  simp only [List.set_set]
  rw [set_same hd]
theorem fieldsE_at {s : Scm} {c : Chg} {i : Nat} {d : Knd} (h : kFind s.kinds c.name = i) (hd : s.kinds[i]? = some d) : fieldsE s c = fldE2 d c ∧ fieldsS s c = setF s i d (fldF2 d c) := by
  unfold fieldsE fieldsS
  rw [h, Int.toNat_natCast, hd]
  exact ⟨if_neg (show ¬ ((i : Int) < 0) by omega), rfl⟩
theorem fieldsE_get {s : Scm} {c : Chg} (h : fieldsE s c = 0) : ∃ (i : Nat) (d : Knd), kFind s.kinds c.name = i ∧ s.kinds[i]? = some d ∧ fldE2 d c = 0 := by
  rcases kFind_cases s.kinds c.name with hn | ⟨i, d, h1, h2⟩
  · exfalso
    unfold fieldsE at h
    split at h
    · rw [if_pos hn] at h; omega
    · omega
  · exact ⟨i, d, h1, h2, by rw [← (fieldsE_at h1 h2).1]; exact h⟩
theorem chgE_flds {s : Scm} {c : Chg} (hw : c.what = 3 ∨ c.what = 4 ∨ c.what = 7) : chgE s c = fieldsE s c ∧ chgS s c = fieldsS s c := by
  constructor
  · unfold chgE
    rw [if_neg (show ¬ (c.what = 1 ∨ c.what = 5) by omega), if_neg (show ¬ c.what = 2 by omega), if_pos hw]
  · unfold chgS
    rw [if_neg (show ¬ c.what = 1 by omega), if_neg (show ¬ c.what = 5 by omega), if_neg (show ¬ c.what = 2 by omega), if_pos hw]
theorem back_field {s : Scm} {c : Chg} (h : cdoE s c = 0) (hw : c.what = 3) : Back s c ⟨4, c.name, kz, bz, c.fld, vz, .empty⟩ := by
  obtain ⟨a1, a2, a3⟩ := cdoE_zero h
  obtain ⟨e1, e2⟩ := chgE_flds (s := s) (c := c) (.inl hw)
  rw [e1] at a2
  obtain ⟨i, d, h1, h2, h3⟩ := fieldsE_get a2
  have hS : chgS s c = setF s i d (addF d.fields c.fld) := by
    rw [e2, (fieldsE_at h1 h2).2]; unfold fldF2; rw [if_pos hw]
  obtain ⟨q1, q2, q3, _⟩ := cpos_add d.fields c.fld
  have g1 : kFind (setF s i d (addF d.fields c.fld)).kinds c.name = i := kFind_set h1 h2 _
  have g2 := setF_kind (addF d.fields c.fld) h2
  obtain ⟨f1, f2⟩ := chgE_flds (s := chgS s c) (c := ⟨4, c.name, kz, bz, c.fld, vz, .empty⟩) (.inr (.inl rfl))
  obtain ⟨k1, k2⟩ := fieldsE_at (s := setF s i d (addF d.fields c.fld)) (c := ⟨4, c.name, kz, bz, c.fld, vz, .empty⟩) g1 g2
  refine back_mk h ?_ ?_
  · rw [f1, hS, k1]
    unfold fldE2
    simp only [q2]
    rfl
  · rw [f2, hS, k2]
    have : fldF2 ⟨d.name, d.ofs, addF d.fields c.fld⟩ ⟨4, c.name, kz, bz, c.fld, vz, .empty⟩ = d.fields := by
      unfold fldF2
      rw [if_neg (by simp), if_neg (by simp)]
      exact q3
    rw [this, setF_back _ h2]
theorem back_ren {s : Scm} {c : Chg} (h : cdoE s c = 0) (hw : c.what = 7) : Back s c ⟨7, c.name, kz, bz, ⟨c.tow, 0, false, false⟩, vz, c.fld.name⟩ := by
  obtain ⟨a1, a2, a3⟩ := cdoE_zero h
  obtain ⟨e1, e2⟩ := chgE_flds (s := s) (c := c) (.inr (.inr hw))
  rw [e1] at a2
  obtain ⟨i, d, h1, h2, h3⟩ := fieldsE_get a2
  have hre : renE d.fields c.fld.name c.tow = 0 := by
    unfold fldE2 at h3; rw [if_neg (by omega), if_pos hw] at h3; exact h3
  have hS : chgS s c = setF s i d (renF d.fields c.fld.name c.tow) := by
    rw [e2, (fieldsE_at h1 h2).2]; unfold fldF2; rw [if_neg (by omega), if_pos hw]
  obtain ⟨n1, n2, n3⟩ := (scmE_zero a1).r.flds (List.mem_of_getElem? h2)
  generalize hfs : d.fields = fs at *
  generalize hnm : c.fld.name = nm at *
  generalize hto : c.tow = tow at *
  -- what the first renaming says
  have hh : chas fs nm = true ∧ nameE tow = 0 ∧ chas fs tow = false := by
    unfold renE at hre
    cases hc1 : chas fs nm with
    | false => rw [hc1] at hre; simp at hre
    | true =>
      rw [hc1, if_pos rfl] at hre
      by_cases hn : nameE tow = 0
      · rw [if_pos hn] at hre
        cases hc2 : chas fs tow with
        | true => rw [hc2] at hre; simp at hre
        | false => exact ⟨rfl, hn, rfl⟩
      · rw [if_neg hn] at hre; exact absurd hre hn
  obtain ⟨hn1, hn2, hn3⟩ := hh
  obtain ⟨f, hf⟩ := chas_some hn1
  have hfn : f.name = nm := by
    have := hn1
    unfold chas eqAt at this
    rw [hf] at this
    have hz : fldC nm f = 0 := by simpa using this
    exact cmpS_zero.1 hz
  have hpl := (List.getElem?_eq_some_iff.1 hf).1
  have hren : renF fs nm tow = addF (delF fs nm) ⟨tow, f.ty, f.must, f.key⟩ := by unfold renF; rw [hf]
  obtain ⟨q1, q2, q3, q4⟩ := cpos_add (delF fs nm) ⟨tow, f.ty, f.must, f.key⟩
  have hne : nm ≠ tow := fun e => by rw [e, hn3] at hn1; cases hn1
  -- the old name is free
  have hfree : chas (renF fs nm tow) nm = false := by
    cases hc : chas (renF fs nm tow) nm with
    | false => rfl
    | true =>
      exfalso
      obtain ⟨g, hg⟩ := chas_some hc
      have hgn : g.name = nm := by
        unfold chas eqAt at hc
        rw [hg] at hc
        have hz : fldC nm g = 0 := by simpa using hc
        exact cmpS_zero.1 hz
      have hm := List.mem_of_getElem? hg
      rw [hren] at hm
      unfold addF at hm
      have hm2 : g ∈ delF fs nm ∨ g = ⟨tow, f.ty, f.must, f.key⟩ := by
        rcases List.mem_append.1 hm with h | h
        · exact .inl (List.mem_of_mem_take h)
        · rcases List.mem_cons.1 h with h | h
          · exact .inr h
          · exact .inl (List.mem_of_mem_drop h)
      rcases hm2 with hm2 | hm2
      · unfold delF at hm2
        have hpw := n2
        have hsplit : fs = fs.take (cpos fs nm) ++ f :: fs.drop (cpos fs nm + 1) := by
          obtain ⟨hl, hx⟩ := List.getElem?_eq_some_iff.1 hf
          rw [← hx, List.getElem_cons_drop, List.take_append_drop]
        unfold Rise at hpw
        rw [hsplit, List.pairwise_append] at hpw
        obtain ⟨p1, p2, p3⟩ := hpw
        rw [List.pairwise_cons] at p2
        rcases List.mem_append.1 hm2 with h | h
        · have := p3 g h f (by simp)
          rw [hgn, hfn, cmpS_zero.2 rfl] at this; omega
        · have := p2.1 g h
          rw [hgn, hfn, cmpS_zero.2 rfl] at this; omega
      · rw [hm2] at hgn; exact hne hgn.symm
  -- where the old name goes
  have hX : cpos (delF fs nm) nm = cpos fs nm := by
    have htl : (fs.take (cpos fs nm)).length = cpos fs nm := by rw [List.length_take]; omega
    refine low_eq (c := fldC nm) (fun j x hj hx => ?_) ?_ (fun x hx => ?_)
    · unfold delF at hx
      rw [List.getElem?_append_left (by omega), List.getElem?_take, if_pos hj] at hx
      exact low_lt hj hx
    · unfold delF; simp; omega
    · unfold delF at hx
      rw [List.getElem?_append_right (by omega), htl, List.getElem?_drop] at hx
      exact low_ge (rise_chain n2) (fldC_mono nm) (i := cpos fs nm + 1 + (cpos fs nm - cpos fs nm)) (by show cpos fs nm ≤ _; omega) hx
  have hback : renF (renF fs nm tow) tow nm = fs := by
    have hat : (renF fs nm tow)[cpos (renF fs nm tow) tow]? = some ⟨tow, f.ty, f.must, f.key⟩ := by
      rw [hren]; show (addF _ _)[cpos (addF (delF fs nm) ⟨tow, f.ty, f.must, f.key⟩) (⟨tow, f.ty, f.must, f.key⟩ : Fld).name]? = _
      rw [q1]; exact q4
    have hdel : delF (renF fs nm tow) tow = delF fs nm := by rw [hren]; exact q3
    have hst : renF (renF fs nm tow) tow nm = addF (delF fs nm) ⟨nm, f.ty, f.must, f.key⟩ := by
      show (match (renF fs nm tow)[cpos (renF fs nm tow) tow]? with | some f => addF (delF (renF fs nm tow) tow) ⟨nm, f.ty, f.must, f.key⟩ | none => renF fs nm tow) = _
      rw [hat, hdel]
    rw [hst]
    have hfe : (⟨nm, f.ty, f.must, f.key⟩ : Fld) = f := by rw [← hfn]
    rw [hfe]
    unfold addF
    rw [hfn, hX]
    have htl : (fs.take (cpos fs nm)).length = cpos fs nm := by rw [List.length_take]; omega
    unfold delF
    rw [List.take_append_of_le_length (by omega), List.take_take, Nat.min_self, List.drop_append, htl, Nat.sub_self, List.drop_of_length_le (by omega), List.drop_zero, List.nil_append]
    obtain ⟨hl, hx⟩ := List.getElem?_eq_some_iff.1 hf
    conv => lhs; rw [← hx]
    rw [List.getElem_cons_drop, List.take_append_drop]
  have g1 : kFind (setF s i d (renF fs nm tow)).kinds c.name = i := kFind_set h1 h2 _
  have g2 := setF_kind (renF fs nm tow) h2
  obtain ⟨f1, f2⟩ := chgE_flds (s := chgS s c) (c := ⟨7, c.name, kz, bz, ⟨tow, 0, false, false⟩, vz, nm⟩) (.inr (.inr rfl))
  obtain ⟨k1, k2⟩ := fieldsE_at (s := setF s i d (renF fs nm tow)) (c := ⟨7, c.name, kz, bz, ⟨tow, 0, false, false⟩, vz, nm⟩) g1 g2
  refine back_mk h ?_ ?_
  · rw [f1, hS, k1]
    unfold fldE2
    rw [if_neg (by simp), if_pos rfl]
    show renE (renF fs nm tow) tow nm = 0
    unfold renE
    have hx2 : chas (renF fs nm tow) tow = true := by rw [hren]; exact q2
    have hx3 : nameE nm = 0 := by rw [← hfn]; exact n1 f (List.mem_of_getElem? hf)
    rw [hx2, if_pos rfl, if_pos hx3, hfree]; rfl
  · rw [f2, hS, k2]
    have : fldF2 ⟨d.name, d.ofs, renF fs nm tow⟩ ⟨7, c.name, kz, bz, ⟨tow, 0, false, false⟩, vz, nm⟩ = d.fields := by
      unfold fldF2
      rw [if_neg (by simp), if_pos rfl, hfs]
      exact hback
    rw [this, setF_back _ h2]
end Go.Proofs.YtldmofffogjlkaaDoor

/- Contract: kinlaw4.letters: two letters of a number. -/
namespace Go.Proofs.YtldmofffogjlkaaDoor
open Go Go.RowKit

def abc : ByteArray := ⟨#[97, 98, 99, 100, 101, 102, 103, 104, 105, 106, 107, 108, 109, 110, 111, 112, 113, 114, 115, 116, 117, 118, 119, 120, 121, 122]⟩
def lettersB (n : Nat) : ByteArray := abc.extract (n / 26 % 26) (n / 26 % 26 + 1) ++ abc.extract (n % 26) (n % 26 + 1)
set_option maxHeartbeats 1000000 in
theorem letters_any (n : Nat) (w : World) (hn : n ≤ 1000) : Calls Tryd.prog 9 #[.int .i64 n] w fun e w' => e = .returned (.string (lettersB n)) ∧ Below w.heap.size w w' := by
  have hn' : (n : Int) ≤ 1000 := by omega
  have ha : (n : Int) / 26 % 26 = ((n / 26 % 26 : Nat) : Int) := by omega
  have hb : (n : Int) % 26 = ((n % 26 : Nat) : Int) := by omega
  have HA := Lib.hid ha
  have HB := Lib.hid hb
  have a1 : n / 26 % 26 < 26 := Nat.mod_lt _ (by omega)
  have b1 : n % 26 < 26 := Nat.mod_lt _ (by omega)
  have HL : Hid (lettersB n = abc.extract (n / 26 % 26) (n / 26 % 26 + 1) ++ abc.extract (n % 26) (n % 26 + 1)) := rfl
  clear ha hb
  go_enter Tryd.func9, Tryd.ntmps9
  go_wp2_with fail
  rw [HA.out, HB.out]
  generalize n / 26 % 26 = a at *
  generalize n % 26 = b at *
  clear HA HB
  have ha1 : (a : Int) < 26 := by omega
  have hb1 : (b : Int) < 26 := by omega
  have ha2 : (0 : Int) ≤ (a : Int) := by omega
  have hb2 : (0 : Int) ≤ (b : Int) := by omega
  have w1 : IntKind.i64.wrap ((a : Int) + 1) = (a : Int) + 1 := IntWalk.i64_in _ (by omega)
  have w2 : IntKind.i64.wrap ((b : Int) + 1) = (b : Int) + 1 := IntWalk.i64_in _ (by omega)
  have a3 : (0 : Int) ≤ (a : Int) + 1 := by omega
  have b3 : (0 : Int) ≤ (b : Int) + 1 := by omega
  have a4 : ((a : Int) + 1).toNat = a + 1 := by omega
  have b4 : ((b : Int) + 1).toNat = b + 1 := by omega
  have a5 : (a : Int) + 1 ≤ 26 := by omega
  have b5 : (b : Int) + 1 ≤ 26 := by omega
  have a6 : (a : Int) ≤ (a : Int) + 1 := by omega
  have b6 : (b : Int) ≤ (b : Int) + 1 := by omega
  go_quiet (fail)
  go_wp2_with fail
  go_ret
  refine ⟨?_, below_drewN (Below.refl _ _) _⟩
  rw [HL.out]
  rfl
end Go.Proofs.YtldmofffogjlkaaDoor

/- Plain: kinds that are added one by one, and dropped again from the end. No condition. -/
namespace Go.Proofs.YtldmofffogjlkaaDoor

def lineK (i : Nat) : Knd := ⟨lettersB i, [], []⟩
def lineS (n : Nat) : Scm := ⟨(List.range n).map lineK, []⟩
def addC (i : Nat) : Chg := ⟨1, .empty, lineK i, bz, fz, vz, .empty⟩
def dropC (i : Nat) : Chg := ⟨2, lettersB i, kz, bz, fz, vz, .empty⟩
theorem add_facts : ∀ i, i < 12 → cdoE (lineS i) (addC i) = 0 := by decide +kernel
theorem add_full : ∀ i, i < 15 → 12 ≤ i → cdoE (lineS 12) (addC i) = 4 := by decide +kernel
theorem drop_facts : ∀ i, i < 12 → cdoE (lineS (i + 1)) (dropC i) = 0 ∧ cdoS (lineS (i + 1)) (dropC i) = lineS i := by decide +kernel
theorem lineS_kinds (n : Nat) : (lineS n).kinds.length = n := by simp [lineS]
theorem add_next {i : Nat} (h : i < 12) : cdoS (lineS i) (addC i) = lineS (i + 1) := by
  unfold cdoS
  rw [if_pos (add_facts i h)]
  unfold chgS
  rw [if_pos (show (addC i).what = 1 from rfl)]
  unfold akS lineS
  rw [List.range_succ, List.map_append]
  rfl
theorem lineS_at {n k : Nat} (h : k < n) : (lineS n).kinds[k]? = some (lineK k) := by
  unfold lineS
  simp [h]
end Go.Proofs.YtldmofffogjlkaaDoor

/- Contract: change.Do. -/
namespace Go.Proofs.YtldmofffogjlkaaDoor
open Go Go.RowKit

/-- A schema, and an error. -/
def RetSS (s : Scm) (err : Int) (w : World) (e : Ending) (w' : World) : Prop := ∃ vk vb, e = .returned (.tuple #[.agg #[vk, vb], errV err]) ∧ ScmR w' vk vb s ∧ Below w.heap.size w w'
/-- .. of which all is the call's own. -/
def RetSO (s : Scm) (err : Int) (w : World) (e : Ending) (w' : World) : Prop := ∃ vk vb xs, e = .returned (.tuple #[.agg #[vk, vb], errV err]) ∧ OwnS w' w.heap.size vk vb s xs ∧ Below w.heap.size w w'
theorem OwnS.none (w : World) (B : Nat) : OwnS w B (.slice none 0 0) (.slice none 0 0) ⟨[], []⟩ [] := ⟨Own.nil _ _ _ _, rfl, Own.nil _ _ _ _, (fun x hx => by cases hx), FDist.nil⟩
theorem OwnKnds.mono {w : World} {B B' : Nat} (hB : B' ≤ B) : ∀ {l : List Knd} {xs : List Value}, OwnKnds w B l xs → OwnKnds w B' l xs
  | [], _, h => h
  | _ :: _, _, h => by
    obtain ⟨u, x, ys, rfl, a1, a2, a3, a4, a5, a6⟩ := h
    exact ⟨u, x, ys, rfl, a1, a2, a3.mono hB, a4, a5.mono hB, a6.mono hB⟩
theorem OwnS.mono {w : World} {B B' : Nat} {vk vb : Value} {s : Scm} {xs : List Value} (h : OwnS w B vk vb s xs) (hB : B' ≤ B) : OwnS w B' vk vb s xs := ⟨h.n.mono hB, h.o.mono hB, h.b.mono hB, h.k, h.d⟩
set_option maxRecDepth 100000 in
set_option maxHeartbeats 16000000 in
theorem cDoO_any (s : Scm) (c : Chg) (vk vb vo vf : Value) (w : World) (hS : ScmR w vk vb s) (hC : ChgR w vo vf c) (ho : c.kind.ofs.length ≤ 1048576) (hf : c.kind.fields.length ≤ 1048576) :
    Calls Tryd.prog 8 #[.agg #[vk, vb], .agg (chgCells c vo vf)] w (RetSO (cdoS s c) (cdoE s c) w) := by
  obtain ⟨Ak, ck, rfl, _, _⟩ := hS.1.form
  obtain ⟨Ab, cb, rfl, _, _⟩ := hS.2.form
  obtain ⟨Ao, co, rfl, _, _⟩ := hC.ko.form
  obtain ⟨Af, cf, rfl, _, _⟩ := hC.kf.form
  obtain ⟨cE, hcE⟩ : ∃ x, x = chgE s c := ⟨_, rfl⟩
  obtain ⟨cS, hcS⟩ : ∃ x, x = chgS s c := ⟨_, rfl⟩
  obtain ⟨dE, hdE⟩ : ∃ x, x = cdoE s c := ⟨_, rfl⟩
  obtain ⟨dS, hdS⟩ : ∃ x, x = cdoS s c := ⟨_, rfl⟩
  have HDE : Hid (dE = if (scmE s).2 = 0 then (if cE = 0 then (scmE cS).2 else cE) else (scmE s).2) := by rw [hdE, hcE, hcS]; rfl
  have HDS : Hid (dS = if dE = 0 then cS else ⟨[], []⟩) := by rw [hdS, hdE, hcS]; rfl
  have HDO : Hid (∀ (bs : Nat) (vk vb : Value) (xs : List Value) (B : Nat) (W : World), Below w.heap.size w W → B ≤ W.heap.size → SW W B bs vk vb s xs → ScmOk s →
      Calls Tryd.prog 34 #[.pointer (some ⟨bs, 0, none⟩), .agg (chgCells c (.slice Ao c.kind.ofs.length co) (.slice Af c.kind.fields.length cf))] W (RetSW B bs cS cE W)) := fun bs vk vb xs B W h0 h1 h2 h3 => by
    rw [hcE, hcS]
    exact cdo_any s c bs vk vb _ _ xs B W h1 h2 (hC.below h0) (by have := h3.r.len; omega) (by have := h3.bl; omega) (fun d hd => ⟨(h3.r.flds hd).2.1, by have := (h3.r.flds hd).2.2; omega⟩) ho hf
  rw [← hdE, ← hdS]
  clear hcE hcS hdE hdS ho hf hC
  obtain ⟨what, name, kind, bond, fld, val, tow⟩ := c
  show Calls Tryd.prog 8 #[.agg #[.slice Ak s.kinds.length ck, .slice Ab s.bonds.length cb], .agg 
    #[.int .i64 what, .string name, .string kind.name, .slice Ao kind.ofs.length co, .slice Af kind.fields.length cf, .string bond.name, .string bond.src, .string bond.dst, .int .i64 bond.mn, .int .i64 bond.mx, .string fld.name, .int .i64 fld.ty, .bool fld.must, .bool fld.key, .int .i64 val.ty, .int .i64 val.n, .string val.s, .string tow]] w _
  have HDO2 : Hid (∀ (bs : Nat) (vk vb : Value) (xs : List Value) (B : Nat) (W : World), Below w.heap.size w W → B ≤ W.heap.size → SW W B bs vk vb s xs → ScmOk s →
      Calls Tryd.prog 34 #[.pointer (some ⟨bs, 0, none⟩), .agg 
    #[.int .i64 what, .string name, .string kind.name, .slice Ao kind.ofs.length co, .slice Af kind.fields.length cf, .string bond.name, .string bond.src, .string bond.dst, .int .i64 bond.mn, .int .i64 bond.mx, .string fld.name, .int .i64 fld.ty, .bool fld.must, .bool fld.key, .int .i64 val.ty, .int .i64 val.n, .string val.s, .string tow]] W (RetSW B bs cS cE W)) := HDO.out
  clear HDO
  obtain ⟨W0, hW0⟩ : ∃ W0, W0 = (((w.alloc (.cells #[.slice Ak s.kinds.length ck, .slice Ab s.bonds.length cb] 25)).alloc (.cells #[.int .i64 what, .string name, .string kind.name, .slice Ao kind.ofs.length co, .slice Af kind.fields.length cf, .string bond.name, .string bond.src, .string bond.dst, .int .i64 bond.mn, .int .i64 bond.mx, .string fld.name, .int .i64 fld.ty, .bool fld.must, .bool fld.key, .int .i64 val.ty, .int .i64 val.n, .string val.s, .string tow] 42)).alloc (.cells #[.slice none 0 0, .slice none 0 0] 25)) := ⟨_, rfl⟩
  have hb0 : Below w.heap.size w W0 := by rw [hW0]; exact (((Below.refl _ _).alloc (Nat.le_refl _) _).alloc (by simp) _).alloc (by simp; omega) _
  have g0 : W0.heap[w.heap.size]? = some (.cells #[.slice Ak s.kinds.length ck, .slice Ab s.bonds.length cb] 25 (0, 0)) := by
    rw [hW0, Below.heap_alloc _ _ _ (by simp; omega), Below.heap_alloc _ _ _ (by simp)]; exact heap_alloc_new _ _
  have g1 : W0.heap[w.heap.size + 1]? = some (.cells #[.int .i64 what, .string name, .string kind.name, .slice Ao kind.ofs.length co, .slice Af kind.fields.length cf, .string bond.name, .string bond.src, .string bond.dst, .int .i64 bond.mn, .int .i64 bond.mx, .string fld.name, .int .i64 fld.ty, .bool fld.must, .bool fld.key, .int .i64 val.ty, .int .i64 val.n, .string val.s, .string tow] 42 (0, 0)) := by
    rw [hW0, Below.heap_alloc _ _ _ (by simp)]
    have := heap_alloc_new (w.alloc (.cells #[.slice Ak s.kinds.length ck, .slice Ab s.bonds.length cb] 25)) (.cells #[.int .i64 what, .string name, .string kind.name, .slice Ao kind.ofs.length co, .slice Af kind.fields.length cf, .string bond.name, .string bond.src, .string bond.dst, .int .i64 bond.mn, .int .i64 bond.mx, .string fld.name, .int .i64 fld.ty, .bool fld.must, .bool fld.key, .int .i64 val.ty, .int .i64 val.n, .string val.s, .string tow] 42); simpa using this
  have g2 : W0.heap[w.heap.size + 1 + 1]? = some (.cells #[.slice none 0 0, .slice none 0 0] 25 (0, 0)) := by
    have := heap_alloc_new ((w.alloc (.cells #[.slice Ak s.kinds.length ck, .slice Ab s.bonds.length cb] 25)).alloc (.cells #[.int .i64 what, .string name, .string kind.name, .slice Ao kind.ofs.length co, .slice Af kind.fields.length cf, .string bond.name, .string bond.src, .string bond.dst, .int .i64 bond.mn, .int .i64 bond.mx, .string fld.name, .int .i64 fld.ty, .bool fld.must, .bool fld.key, .int .i64 val.ty, .int .i64 val.n, .string val.s, .string tow] 42)) (.cells #[.slice none 0 0, .slice none 0 0] 25); rw [hW0]; simpa using this
  have hsz : W0.heap.size = w.heap.size + 3 := by rw [hW0]; simp
  have hW0' := hW0.symm
  have HG := Lib.hid (hS.below hb0)
  have hck := sright_any s _ _ W0 (hS.below hb0)
  have x0 := block_cell g0 0
  have x1 := block_cell g0 1
  clear hS hW0
  go_enter Tryd.func8, Tryd.ntmps8
  go_wp2_with fail
  refine hck.mono ?_
  clear hck
  rintro e w1 ⟨rfl, hb1⟩
  have hB1 := hb0.trans (hb1.mono hb0.size)
  have m0 := (hb1.block _ (Array.getElem?_eq_some_iff.1 g0).1).trans g0
  have m1 := (hb1.block _ (Array.getElem?_eq_some_iff.1 g1).1).trans g1
  have m2 := (hb1.block _ (Array.getElem?_eq_some_iff.1 g2).1).trans g2
  have hs1 := hb1.size
  clear g0 g1 g2 x0 x1
  generalize hz : (scmE s).2 = z at *
  have HZ := Lib.hid hz
  clear hz
  by_cases he : z = 0
  case neg =>
    have HEE : Hid (errV dE = .iface 87 (.int .i64 z) ∧ dS = ⟨[], []⟩) := by
      have h0 : dE = z := by rw [HDE.out, if_neg he]
      exact ⟨by rw [h0]; exact errV_some he, by rw [HDS.out, h0, if_neg he]⟩
    rw [errV_some he]
    clear he HDE HDS
    have a5 := block_free m2 0
    have a6 := block_free m2 1
    have a7 := block_cell m2 0
    have a8 := block_cell m2 1
    have HP4 := Lib.hid (setCell_block (setCell_block m2 0 (.slice none 0 0)) 1 (.slice none 0 0))
    clear m2
    go_wp2_with fail
    have k2 := block_cell HP4.out 0
    have k3 := block_cell HP4.out 1
    exact bodyPost_ret (v := .tuple #[.agg #[.slice none 0 0, .slice none 0 0], .iface 87 (.int .i64 (z))]) (by simp [results, Tryd.results8, go_sem, k2, k3]) rfl
      ⟨.slice none 0 0, .slice none 0 0, [], by rw [HEE.out.1], by rw [HEE.out.2]; exact OwnS.none _ _, (hB1.setCell (p := ⟨w.heap.size + 1 + 1, 0, none⟩) (by show w.heap.size ≤ w.heap.size + 1 + 1; omega) _).setCell (p := ⟨w.heap.size + 1 + 1, 1, none⟩) (by show w.heap.size ≤ w.heap.size + 1 + 1; omega) _⟩
  have HOK : Hid (ScmOk s) := scmE_zero (HZ.out.trans he)
  have HDE2 : Hid (dE = if cE = 0 then (scmE cS).2 else cE) := by unfold Hid; rw [HDE.out, if_pos he]
  rw [errV_zero he]
  have hown := ownSchema_any s _ _ w1 (HG.out.below hb1) (by have := HOK.out.r.len; omega) (by have := HOK.out.bl; omega) (fun d hd => by
    obtain ⟨i, hi⟩ := List.mem_iff_getElem?.1 hd
    have h := HOK.out.r.one i d hi
    have h1 := h.ofl
    have h2 := h.fll
    omega)
  have x0 := block_cell m0 0
  have x1 := block_cell m0 1
  have M0 := Lib.hid m0
  have M1 := Lib.hid m1
  have M2 := Lib.hid m2
  have HBB := Lib.hid hB1
  clear he HDE m0 m1 m2 hb0 hb1 hB1 HG HZ hsz
  go_upto_region 4 with fail
  go_wp2_with fail
  refine hown.mono ?_
  clear hown
  rintro e w2 ⟨un, ut, xs, rfl, ho2, hb2⟩
  obtain ⟨A2, c2, rfl, _, _⟩ := ho2.n.form
  obtain ⟨A3, c3, rfl, _, _⟩ := ho2.b.form
  have n0 := (hb2.block _ (Array.getElem?_eq_some_iff.1 M0.out).1).trans M0.out
  have n1 := Lib.hid ((hb2.block _ (Array.getElem?_eq_some_iff.1 M1.out).1).trans M1.out)
  have n2 := Lib.hid ((hb2.block _ (Array.getElem?_eq_some_iff.1 M2.out).1).trans M2.out)
  have q0 := block_cell n0 0
  have q1 := block_cell n0 1
  have f0 := block_free n0 0
  have f1 := block_free n0 1
  obtain ⟨W3, hW3⟩ : ∃ W3, W3 = (w2.setCell ⟨w.heap.size, 0, none⟩ (.slice A2 s.kinds.length c2)).setCell ⟨w.heap.size, 1, none⟩ (.slice A3 s.bonds.length c3) := ⟨_, rfl⟩
  have hp1 := setCell_block n0 0 (.slice A2 s.kinds.length c2)
  have hp2 := setCell_block hp1 1 (.slice A3 s.bonds.length c3)
  rw [← hW3] at hp2
  have hsm : ∀ T, 25 ≠ T → Same T w2 W3 := fun T hT => by
    rw [hW3]
    exact (Same.setCell (p := ⟨w.heap.size, 0, none⟩) n0 hT _).trans (Same.setCell (p := ⟨w.heap.size, 1, none⟩) hp1 hT _)
  have hB2 : Below w.heap.size w w2 := HBB.out.trans (hb2.mono HBB.out.size)
  have hB3 : Below w.heap.size w W3 := by
    rw [hW3]; exact (hB2.setCell (p := ⟨w.heap.size, 0, none⟩) (Nat.le_refl _) _).setCell (p := ⟨w.heap.size, 1, none⟩) (Nat.le_refl _) _
  have hs3 : W3.heap.size = w2.heap.size := by rw [hW3]; simp [World.setCell]
  have p1 := (show W3.heap[w.heap.size + 1]? = w2.heap[w.heap.size + 1]? by rw [hW3, Below.heap_setCell _ _ _ _ (by show w.heap.size + 1 ≠ w.heap.size; omega), Below.heap_setCell _ _ _ _ (by show w.heap.size + 1 ≠ w.heap.size; omega)]).trans n1.out
  have p2 := (show W3.heap[w.heap.size + 1 + 1]? = w2.heap[w.heap.size + 1 + 1]? by rw [hW3, Below.heap_setCell _ _ _ _ (by show w.heap.size + 1 + 1 ≠ w.heap.size; omega), Below.heap_setCell _ _ _ _ (by show w.heap.size + 1 + 1 ≠ w.heap.size; omega)]).trans n2.out
  have hSW : SW W3 w.heap.size w.heap.size (.slice A2 s.kinds.length c2) (.slice A3 s.bonds.length c3) s xs := ⟨hp2, (ho2.same (hsm _ (by decide)) (hsm _ (by decide)) (hsm _ (by decide)) (hsm _ (by decide))).mono HBB.out.size, Nat.le_refl _⟩
  have hdo := HDO2.out w.heap.size _ _ xs w.heap.size W3 hB3 hB3.size hSW HOK.out
  have HB3 := Lib.hid hB3
  have hW3' := hW3.symm
  have P1 := Lib.hid p1
  have P2 := Lib.hid p2
  clear hW3 hp1 hp2 hsm ho2 hb2 hB2 hB3 hSW p1 p2 n0 n1 n2 M0 M1 M2 HBB HDO2 HOK x0 x1
  go_upto_region 5 with fail
  rw [hW3'] at *
  clear q0 q1 f0 f1 hW3' hs3
  go_wp2_with (with_reducible refine wpList_load_row rfl 42 _ rfl _ rfl 42 _ (0, 0) _ P1.out Tryd.underlying42 rfl (by kernel_rfl) ?_)
  refine hdo.mono ?_
  clear hdo
  rintro e w4 ⟨rfl, hsw, hb4, hsch, hsz4⟩
  have P4 := Lib.hid (hsch _ _ _ (by omega) P2.out)
  have HB4 := Lib.hid (HB3.out.trans hb4)
  have HSW := Lib.hid hsw
  clear hsw hb4 hsch hsz4 P1 P2 HB3
  by_cases he : cE = 0
  case neg =>
    have HEE : Hid (errV dE = .iface 87 (.int .i64 cE) ∧ dS = ⟨[], []⟩) := by
      have h0 : dE = cE := by rw [HDE2.out, if_neg he]
      exact ⟨by rw [h0]; exact errV_some he, by rw [HDS.out, h0, if_neg he]⟩
    rw [errV_some he]
    clear he HDE2 HDS
    have a5 := block_free P4.out 0
    have a6 := block_free P4.out 1
    have a7 := block_cell P4.out 0
    have a8 := block_cell P4.out 1
    have HP4 := Lib.hid (setCell_block (setCell_block P4.out 0 (.slice none 0 0)) 1 (.slice none 0 0))
    clear HSW
    go_wp2_with fail
    have k2 := block_cell HP4.out 0
    have k3 := block_cell HP4.out 1
    exact bodyPost_ret (v := .tuple #[.agg #[.slice none 0 0, .slice none 0 0], .iface 87 (.int .i64 (cE))]) (by simp [results, Tryd.results8, go_sem, k2, k3]) rfl
      ⟨.slice none 0 0, .slice none 0 0, [], by rw [HEE.out.1], by rw [HEE.out.2]; exact OwnS.none _ _, (HB4.out.setCell (p := ⟨w.heap.size + 1 + 1, 0, none⟩) (by show w.heap.size ≤ w.heap.size + 1 + 1; omega) _).setCell (p := ⟨w.heap.size + 1 + 1, 1, none⟩) (by show w.heap.size ≤ w.heap.size + 1 + 1; omega) _⟩
  obtain ⟨vk, vb, ys, hsw⟩ := HSW.out he
  have HDE3 : Hid (dE = (scmE cS).2) := by unfold Hid; rw [HDE2.out, if_pos he]
  rw [errV_zero he]
  obtain ⟨A4, c4, hv4, _, _⟩ := hsw.o.n.form
  obtain ⟨A5, c5, hv5, _, _⟩ := hsw.o.b.form
  generalize hn4 : cS.kinds.length = n4 at *
  generalize hn5 : cS.bonds.length = n5 at *
  subst hv4
  subst hv5
  have HN : Hid (OwnS w4 w.heap.size (.slice A4 n4 c4) (.slice A5 n5 c5) cS ys) := hsw.o
  have x0 := block_cell hsw.q 0
  have x1 := block_cell hsw.q 1
  have HQ := Lib.hid hsw.q
  have hck := sright_any cS _ _ w4 HN.out.r
  generalize hz : (scmE cS).2 = z2 at *
  clear hsw HSW HDE2 he hn4 hn5 hz
  go_upto_region 8 with fail
  go_wp2_with fail
  refine hck.mono ?_
  clear hck
  rintro e w5 ⟨rfl, hb5⟩
  have P5 := Lib.hid ((hb5.block _ (Array.getElem?_eq_some_iff.1 P4.out).1).trans P4.out)
  have HB5 := Lib.hid (HB4.out.trans (hb5.mono HB4.out.size))
  have x0 := cell_below hb5 x0
  have x1 := cell_below hb5 x1
  have HN5 := Lib.hid (HN.out.below hb5)
  clear hb5 HB4 P4 HN HQ
  by_cases he : z2 = 0
  case neg =>
    have HEE : Hid (errV dE = .iface 87 (.int .i64 z2) ∧ dS = ⟨[], []⟩) := by
      exact ⟨by rw [HDE3.out]; exact errV_some he, by rw [HDS.out, HDE3.out, if_neg he]⟩
    rw [errV_some he]
    clear he HDE3 HDS
    have a5 := block_free P5.out 0
    have a6 := block_free P5.out 1
    have a7 := block_cell P5.out 0
    have a8 := block_cell P5.out 1
    have HP4 := Lib.hid (setCell_block (setCell_block P5.out 0 (.slice none 0 0)) 1 (.slice none 0 0))
    clear HN5
    go_wp2_with fail
    have k2 := block_cell HP4.out 0
    have k3 := block_cell HP4.out 1
    exact bodyPost_ret (v := .tuple #[.agg #[.slice none 0 0, .slice none 0 0], .iface 87 (.int .i64 (z2))]) (by simp [results, Tryd.results8, go_sem, k2, k3]) rfl
      ⟨.slice none 0 0, .slice none 0 0, [], by rw [HEE.out.1], by rw [HEE.out.2]; exact OwnS.none _ _, (HB5.out.setCell (p := ⟨w.heap.size + 1 + 1, 0, none⟩) (by show w.heap.size ≤ w.heap.size + 1 + 1; omega) _).setCell (p := ⟨w.heap.size + 1 + 1, 1, none⟩) (by show w.heap.size ≤ w.heap.size + 1 + 1; omega) _⟩
  have HEE : Hid (errV dE = .nilIface ∧ dS = cS) := by
    exact ⟨by rw [HDE3.out]; exact errV_zero he, by rw [HDS.out, HDE3.out, if_pos he]⟩
  rw [errV_zero he]
  have f0 := block_free P5.out 0
  have f1 := block_free P5.out 1
  have f2 := block_cell P5.out 0
  have f3 := block_cell P5.out 1
  have hp6 := setCell_block P5.out 0 (.slice A4 n4 c4)
  have HP6 := Lib.hid (setCell_block hp6 1 (.slice A5 n5 c5))
  have HSM : Hid (∀ T, 25 ≠ T → Same T w5 ((w5.setCell ⟨w.heap.size + 1 + 1, 0, none⟩ (.slice A4 n4 c4)).setCell ⟨w.heap.size + 1 + 1, 1, none⟩ (.slice A5 n5 c5))) := fun T hT =>
    (Same.setCell (p := ⟨w.heap.size + 1 + 1, 0, none⟩) P5.out hT _).trans (Same.setCell (p := ⟨w.heap.size + 1 + 1, 1, none⟩) hp6 hT _)
  clear hp6
  clear he HDE3 HDS
  go_wp2_with fail
  have k2 := block_cell HP6.out 0
  have k3 := block_cell HP6.out 1
  exact bodyPost_ret (v := .tuple #[.agg #[.slice A4 n4 c4, .slice A5 n5 c5], .nilIface]) (by simp [results, Tryd.results8, go_sem, k2, k3]) rfl
    ⟨.slice A4 n4 c4, .slice A5 n5 c5, ys, by rw [HEE.out.1], by rw [HEE.out.2]; exact HN5.out.same (HSM.out _ (by decide)) (HSM.out _ (by decide)) (HSM.out _ (by decide)) (HSM.out _ (by decide)), (HB5.out.setCell (p := ⟨w.heap.size + 1 + 1, 0, none⟩) (by show w.heap.size ≤ w.heap.size + 1 + 1; omega) _).setCell (p := ⟨w.heap.size + 1 + 1, 1, none⟩) (by show w.heap.size ≤ w.heap.size + 1 + 1; omega) _⟩
theorem cDo_any (s : Scm) (c : Chg) (vk vb vo vf : Value) (w : World) (hS : ScmR w vk vb s) (hC : ChgR w vo vf c) (ho : c.kind.ofs.length ≤ 1048576) (hf : c.kind.fields.length ≤ 1048576) :
    Calls Tryd.prog 8 #[.agg #[vk, vb], .agg (chgCells c vo vf)] w (RetSS (cdoS s c) (cdoE s c) w) :=
  (cDoO_any s c vk vb vo vf w hS hC ho hf).mono fun _ _ ⟨a, b, xs, h1, h2, h3⟩ => ⟨a, b, h1, h2.r, h3⟩
end Go.Proofs.YtldmofffogjlkaaDoor
