/- Parts: DwC, SamA, SamS, DifA, DifB, DifC0. -/
import Derived.Test.YtpjnbikkhfnjbaaMg18
import Derived.Test.YtpjnbikkhfnjbaaMg09
import Derived.Test.YtpjnbikkhfnjbaaMg04
import Derived.Test.YtpjnbikkhfnjbaaMg11
import Derived.Test.YtpjnbikkhfnjbaaMg06
import Derived.Deep.DeepCutAuto
import Derived.Test.YtpjnbikkhfnjbaaMg15
import Derived.Test.YtpjnbikkhfnjbaaMg16
import Derived.Test.YtpjnbikkhfnjbaaMg07
import Derived.Laws.EntriesVeiled
/- Plain: what conforms to a schema conforms to one that is as wide; each is as wide as itself; as wide as what is as wide is as wide. No condition. -/
namespace Go.Proofs.Ytpjnbikkhfnjbaa
open Go Go.RowKit

theorem tieF_none2 {s : Scm} {g : Grf} {t : Tie} (h : bFind s.bonds t.bond < 0) : tieF s g t = [⟨5, t.src, t.bond⟩] := by
  unfold tieF
  split
  · rw [if_pos h]
  · rfl
theorem tieF_at2 {s : Scm} {g : Grf} {t : Tie} {i : Nat} {d : Bnd} (h : bFind s.bonds t.bond = i) (hd : s.bonds[i]? = some d) : tieF s g t = if endB s g t.src d.src = true ∧ endB s g t.dst d.dst = true then [] else [⟨6, t.src, t.bond⟩] := by
  unfold tieF
  rw [h, Int.toNat_natCast, hd]
  simp only
  rw [if_neg (by omega)]
theorem kindW_at2 {l : List Knd} {k d : Knd} {i : Nat} (h : kFind l k.name = i) (hd : l[i]? = some d) : kindW l k = (decide (k.ofs = d.ofs) && fieldsW k.fields d.fields) := by
  unfold kindW; rw [h, Int.toNat_natCast, hd]
  simp only
  rw [decide_eq_false (by omega)]; simp
theorem bondW_at2 {l : List Bnd} {k d : Bnd} {i : Nat} (h : bFind l k.name = i) (hd : l[i]? = some d) : bondW l k = bondW1 k d := by
  unfold bondW; rw [h, Int.toNat_natCast, hd]
  simp only
  rw [decide_eq_false (by omega)]; simp

theorem widerB_get {a b : Scm} (h : widerB a b = true) : (∀ x ∈ a.kinds, kindW b.kinds x = true) ∧ (∀ x ∈ a.bonds, bondW b.bonds x = true) ∧ ∀ y ∈ b.bonds, bFind a.bonds y.name < 0 → y.mn ≤ 0 := by
  unfold widerB at h
  simp only [Bool.and_eq_true, List.all_eq_true, Bool.not_eq_true', List.any_eq_false, decide_eq_true_eq] at h
  exact ⟨h.1.1, h.1.2, fun y hy hn => by have := h.2 y hy; omega⟩
theorem widerB_put {a b : Scm} (h1 : ∀ x ∈ a.kinds, kindW b.kinds x = true) (h2 : ∀ x ∈ a.bonds, bondW b.bonds x = true) (h3 : ∀ y ∈ b.bonds, bFind a.bonds y.name < 0 → y.mn ≤ 0) : widerB a b = true := by
  unfold widerB
  simp only [Bool.and_eq_true, List.all_eq_true, Bool.not_eq_true', List.any_eq_false, decide_eq_true_eq]
  exact ⟨⟨h1, h2⟩, fun y hy hn => by have := h3 y hy hn.1; omega⟩
theorem bondW1_iff {x y : Bnd} : bondW1 x y = true ↔ x.src = y.src ∧ x.dst = y.dst ∧ y.mn ≤ x.mn ∧ (y.mx = -1 ∨ (x.mx ≠ -1 ∧ x.mx ≤ y.mx)) := by
  unfold bondW1
  simp [and_assoc]
theorem isKinB_iff2 {l : List Knd} {a b : ByteArray} : isKinB l a b = true ↔ b ∈ kinL l a := by
  unfold isKinB
  simp
theorem isKinB_wide {a b : List Knd} (ha : Wf a) (hb : Wf b) (hw : ∀ x ∈ a, kindW b x = true) {nm : ByteArray} (hn : ∃ k ∈ a, k.name = nm) (s : ByteArray) : isKinB b nm s = isKinB a nm s := by
  rw [Bool.eq_iff_iff, isKinB_iff2, isKinB_iff2]
  exact (kin_wide ha hb hw hn s).symm
theorem kFind_of {l : List Knd} {s : ByteArray} (h : 0 ≤ kFind l s) : ∃ k ∈ l, k.name = s := by
  obtain ⟨i, k, _, h2, h3, _⟩ := kFind_pos h
  exact ⟨k, List.mem_of_getElem? h2, h3⟩
theorem kFind_to {l : List Knd} {s : ByteArray} (h : ∃ k ∈ l, k.name = s) : 0 ≤ kFind l s := by
  obtain ⟨k, h1, rfl⟩ := h
  exact kFind_mem h1
theorem kind_to {a b : List Knd} (hw : ∀ x ∈ a, kindW b x = true) {s : ByteArray} (h : ∃ k ∈ a, k.name = s) : ∃ k ∈ b, k.name = s := by
  obtain ⟨k, hk, rfl⟩ := h
  obtain ⟨_, d, hd, e, _⟩ := kindW_get (hw k hk)
  exact ⟨d, List.mem_of_getElem? hd, e⟩
theorem end_wide {a b : Scm} {g : Grf} (ha : Wf a.kinds) (hb : Wf b.kinds) (hw : ∀ x ∈ a.kinds, kindW b.kinds x = true) {id : Int} {s : ByteArray} (h : endB a g id s = true) : endB b g id s = true := by
  unfold endB at h ⊢
  split at h
  · rename_i n hn
    simp only [Bool.and_eq_true, decide_eq_true_eq] at h ⊢
    obtain ⟨⟨h1, h2⟩, h3⟩ := h
    have hk := kFind_of h2
    exact ⟨⟨h1, kFind_to (kind_to hw hk)⟩, by rw [isKinB_wide ha hb hw hk]; exact h3⟩
  · cases h
theorem tieF_nil {s : Scm} {g : Grf} {t : Tie} (h : tieF s g t = []) : ∃ x ∈ s.bonds, x.name = t.bond ∧ endB s g t.src x.src = true ∧ endB s g t.dst x.dst = true := by
  by_cases hn : bFind s.bonds t.bond < 0
  · rw [tieF_none2 hn] at h; cases h
  · obtain ⟨i, d, h1, h2, h3, _⟩ := bFind_pos (by omega : 0 ≤ bFind s.bonds t.bond)
    rw [tieF_at2 h1 h2] at h
    split at h
    · rename_i h0; exact ⟨d, List.mem_of_getElem? h2, h3, h0⟩
    · cases h
theorem tieF_to {s : Scm} {g : Grf} {t : Tie} (hd : BDist s.bonds) {x : Bnd} (hx : x ∈ s.bonds) (hn : x.name = t.bond) (h1 : endB s g t.src x.src = true) (h2 : endB s g t.dst x.dst = true) : tieF s g t = [] := by
  obtain ⟨i, hi⟩ := List.mem_iff_getElem?.1 hx
  have := bFind_self hd hi
  rw [hn] at this
  rw [tieF_at2 this hi, if_pos ⟨h1, h2⟩]
theorem bondF_nil {s : Scm} {g : Grf} {n : Nod} {x : Bnd} : bondF s g n x = [] ↔ (isKinB s.kinds n.kind x.src = true → x.mn ≤ manyF g n x ∧ (0 ≤ x.mx → manyF g n x ≤ x.mx)) := by
  unfold bondF
  by_cases h : isKinB s.kinds n.kind x.src = true
  · rw [if_pos h, List.append_eq_nil_iff]
    constructor
    · rintro ⟨h1, h2⟩ _
      refine ⟨?_, fun h3 => ?_⟩
      · by_cases h4 : manyF g n x < x.mn
        · rw [if_pos h4] at h1; cases h1
        · omega
      · by_cases h4 : 0 ≤ x.mx ∧ x.mx < manyF g n x
        · rw [if_pos h4] at h2; cases h2
        · omega
    · intro h0
      obtain ⟨h1, h2⟩ := h0 h
      exact ⟨by rw [if_neg (by omega)], by rw [if_neg (fun h4 => by have := h2 h4.1; omega)]⟩
  · rw [if_neg h]
    exact ⟨fun _ h0 => absurd h0 h, fun _ => rfl⟩
theorem many_none {g : Grf} {n : Nod} {x : Bnd} (h : ∀ t ∈ g.ties, t.bond ≠ x.name) : manyF g n x = 0 := by
  unfold manyF endsS
  have h0 : endsL g.ties n.id x.name false = [] := by
    unfold endsL
    rw [List.map_eq_nil_iff, List.filter_eq_nil_iff]
    intro t ht
    have := h t ht
    unfold endT
    simp [this]
  rw [h0, (sortI_perm []).length_eq]
  rfl
/-- What conforms to one conforms to a wider one. -/
theorem of_wide {a b : Scm} {g : Grf} (ha : ScmOk a) (hb : ScmOk b) (hw : widerB a b = true) (hn : ∀ n ∈ g.nodes, nodE n = 0) (h : ofF a g = []) : ofF b g = [] := by
  obtain ⟨w1, w2, w3⟩ := widerB_get hw
  obtain ⟨h1, h2, h3⟩ := ofF_nil.1 h
  refine ofF_nil.2 ⟨fun n hm => ⟨alone_wide ha.r hb.r w1 (hn n hm) (h1 n hm).1, ?_⟩, flat_nodup h2 fun n hm => key_wide ha.r hb.r w1 (hn n hm) (h1 n hm).1, fun t ht => ?_⟩
  · rw [List.flatMap_eq_nil_iff]
    intro y hy
    rw [bondF_nil]
    intro hk
    have hkn := aloneF_kind (h1 n hm).1
    rw [isKinB_wide ha.r.wf hb.r.wf w1 hkn] at hk
    by_cases hf : bFind a.bonds y.name < 0
    · have hz : manyF g n y = 0 := many_none fun t ht e => by
        obtain ⟨x, hx, e2, _⟩ := tieF_nil (h3 t ht)
        exact bFind_neg hf x hx (e2.trans e)
      rw [hz]
      exact ⟨w3 y hy hf, fun h => h⟩
    · obtain ⟨i, x, _, e2, e3, _⟩ := bFind_pos (by omega : 0 ≤ bFind a.bonds y.name)
      have hx := List.mem_of_getElem? e2
      obtain ⟨_, d, hd, e4, e5⟩ := bondW_get (w2 x hx)
      have : d = y := hb.bdist.uniq (List.mem_of_getElem? hd) hy (e4.trans e3)
      subst this
      obtain ⟨g1, g2, g3, g4⟩ := bondW1_iff.1 e5
      have hF := (List.flatMap_eq_nil_iff.1 (h1 n hm).2) x hx
      rw [bondF_nil] at hF
      obtain ⟨q1, q2⟩ := hF (by rw [g1]; exact hk)
      have hmm : manyF g n d = manyF g n x := by unfold manyF; rw [e4]
      rw [hmm]
      have hr := (ha.b i x e2).rng
      unfold rngB at hr
      refine ⟨by omega, fun h0 => ?_⟩
      have := q2 (by omega)
      omega
  · obtain ⟨x, hx, e1, e2, e3⟩ := tieF_nil (h3 t ht)
    obtain ⟨_, d, hd, e4, e5⟩ := bondW_get (w2 x hx)
    obtain ⟨g1, g2, _, _⟩ := bondW1_iff.1 e5
    exact tieF_to hb.bdist (List.mem_of_getElem? hd) (e4.trans e1) (by rw [← g1]; exact end_wide ha.r.wf hb.r.wf w1 e2) (by rw [← g2]; exact end_wide ha.r.wf hb.r.wf w1 e3)

/-! ### As wide -/
theorem kindW_put {l : List Knd} (hw : Wf l) {k d : Knd} (hd : d ∈ l) (h1 : d.name = k.name) (h2 : k.ofs = d.ofs) (h3 : fieldsW k.fields d.fields = true) : kindW l k = true := by
  obtain ⟨i, hi⟩ := List.mem_iff_getElem?.1 hd
  have := kFind_self hw hi
  rw [h1] at this
  rw [kindW_at2 this hi, decide_eq_true h2, h3]
  rfl
theorem bondW_put {l : List Bnd} (hw : BDist l) {k d : Bnd} (hd : d ∈ l) (h1 : d.name = k.name) (h2 : bondW1 k d = true) : bondW l k = true := by
  obtain ⟨i, hi⟩ := List.mem_iff_getElem?.1 hd
  have := bFind_self hw hi
  rw [h1] at this
  rw [bondW_at2 this hi, h2]
theorem fFind_self {l : List Fld} (hr : Rise l) {x : Fld} (hx : x ∈ l) : ∃ i : Nat, fFind l x.name = i ∧ l[i]? = some x := by
  have h0 : 0 ≤ fFind l x.name := by
    have : l.any (fun k => decide (k.name = x.name)) = true := List.any_eq_true.2 ⟨x, hx, by simp⟩
    rw [← idxI_any] at this
    simpa [fFind] using this
  obtain ⟨i, y, e1, e2, e3⟩ := fFind_pos h0
  have : y = x := hr.uniq (List.mem_of_getElem? e2) hx e3
  subst this
  exact ⟨i, e1, e2⟩
theorem fieldsW_put {a b : List Fld} (hr : Rise b) (h1 : ∀ x ∈ a, ∃ y ∈ b, FldW x y) (h2 : ∀ y ∈ b, y.must = true → ∃ x ∈ a, x.name = y.name) : fieldsW a b = true := by
  unfold fieldsW
  simp only [Bool.and_eq_true, List.all_eq_true, Bool.not_eq_true', List.any_eq_false]
  refine ⟨fun x hx => ?_, fun y hy hm => ?_⟩
  · obtain ⟨y, hy, e1, e2, e3, e4⟩ := h1 x hx
    obtain ⟨i, q1, q2⟩ := fFind_self hr hy
    rw [e1] at q1
    unfold okF
    rw [q1, Int.toNat_natCast, q2]
    have : ¬ ((i : Int) < 0) := by omega
    simp only [this, decide_false, Bool.not_false, e2, decide_true, Bool.true_and, Bool.and_eq_true, Bool.not_eq_true', Bool.and_eq_false_imp]
    exact ⟨fun h => by simp [e3 h], fun h => by simp [e4 h]⟩
  · obtain ⟨x, hx, e⟩ := h2 y hy hm.1
    exact fFind_neg (of_decide_eq_true hm.2) x hx e
theorem bFind_has {l : List Bnd} {x : Bnd} (h : x ∈ l) : 0 ≤ bFind l x.name := by
  rcases Int.lt_or_le (bFind l x.name) 0 with h1 | h1
  · exact absurd rfl (bFind_neg h1 x h)
  · exact h1
theorem wider_self {a : Scm} (ha : ScmOk a) : widerB a a = true := by
  refine widerB_put (fun x hx => ?_) (fun x hx => ?_) fun y hy hn => ?_
  · exact kindW_put ha.r.wf hx rfl rfl (fieldsW_put (ha.r.flds hx).2.1 (fun x hx => ⟨x, hx, rfl, rfl, id, id⟩) fun y hy _ => ⟨y, hy, rfl⟩)
  · exact bondW_put ha.bdist hx rfl (bondW1_iff.2 ⟨rfl, rfl, by omega, by omega⟩)
  · have := bFind_has hy; omega
theorem wider_trans {a b c : Scm} (hc : ScmOk c) (h1 : widerB a b = true) (h2 : widerB b c = true) : widerB a c = true := by
  obtain ⟨p1, p2, p3⟩ := widerB_get h1
  obtain ⟨q1, q2, q3⟩ := widerB_get h2
  refine widerB_put (fun x hx => ?_) (fun x hx => ?_) fun y hy hn => ?_
  · obtain ⟨_, d, hd, e1, e2, e3⟩ := kindW_get (p1 x hx)
    obtain ⟨_, d', hd', e4, e5, e6⟩ := kindW_get (q1 d (List.mem_of_getElem? hd))
    have hd' := List.mem_of_getElem? hd'
    obtain ⟨f1, f2⟩ := fieldsW_get e3
    obtain ⟨f3, f4⟩ := fieldsW_get e6
    refine kindW_put hc.r.wf hd' (e4.trans e1) (e2.trans e5) (fieldsW_put (hc.r.flds hd').2.1 (fun u hu => ?_) fun y hy hm => ?_)
    · obtain ⟨v, hv, a1, a2, a3, a4⟩ := f1 u hu
      obtain ⟨z, hz, b1, b2, b3, b4⟩ := f3 v hv
      exact ⟨z, hz, b1.trans a1, b2.trans a2, fun h => a3 (b3 h), fun h => a4 (b4 h)⟩
    · obtain ⟨v, hv, e⟩ := f4 y hy hm
      obtain ⟨z, hz, b1, b2, b3, b4⟩ := f3 v hv
      have : z = y := (hc.r.flds hd').2.1.uniq hz hy (b1.trans e)
      subst this
      obtain ⟨u, hu, e'⟩ := f2 v hv (b3 hm)
      exact ⟨u, hu, e'.trans e⟩
  · obtain ⟨_, d, hd, e1, e2⟩ := bondW_get (p2 x hx)
    obtain ⟨_, d', hd', e3, e4⟩ := bondW_get (q2 d (List.mem_of_getElem? hd))
    obtain ⟨a1, a2, a3, a4⟩ := bondW1_iff.1 e2
    obtain ⟨b1, b2, b3, b4⟩ := bondW1_iff.1 e4
    exact bondW_put hc.bdist (List.mem_of_getElem? hd') (e3.trans e1) (bondW1_iff.2 ⟨a1.trans b1, a2.trans b2, by omega, by omega⟩)
  · by_cases hf : bFind b.bonds y.name < 0
    · exact q3 y hy hf
    · obtain ⟨i, x, _, e2, e3, _⟩ := bFind_pos (by omega : 0 ≤ bFind b.bonds y.name)
      have hx := List.mem_of_getElem? e2
      have hm := p3 x hx (by rw [e3]; exact hn)
      obtain ⟨_, d, hd, e4, e5⟩ := bondW_get (q2 x hx)
      have : d = y := hc.bdist.uniq (List.mem_of_getElem? hd) hy (e4.trans e3)
      subst this
      obtain ⟨_, _, b3, _⟩ := bondW1_iff.1 e5
      omega
end Go.Proofs.Ytpjnbikkhfnjbaa

/- Contracts: kinsame.Texts, kinsame.Fields. No condition. -/
namespace Go.Proofs.Ytpjnbikkhfnjbaa
open Go Go.RowKit


theorem drewN_step {w wr : World} (h : ∃ m, wr = w.drewN m) (n : Nat) : ∃ m, wr.drewN n = w.drewN m := by
  obtain ⟨m, rfl⟩ := h
  exact ⟨m + n, World.drewN_drewN ..⟩
/-- Two lists, place by place. -/
theorem lists_eq {D : Type} [DecidableEq D] {a b : List D} (hl : a.length = b.length) (h : ∀ j x y, j < a.length → a[j]? = some x → b[j]? = some y → x = y) : a = b := by
  apply List.ext_getElem? 
  intro i
  by_cases hi : i < a.length
  · have h1 := List.getElem?_eq_getElem hi
    have h2 : b[i]? = some b[i] := List.getElem?_eq_getElem (by omega)
    rw [h1, h2, h i _ _ hi h1 h2]
  · rw [List.getElem?_eq_none (by omega), List.getElem?_eq_none (by omega)]
end Go.Proofs.Ytpjnbikkhfnjbaa

/- Contract: kinsame.Schema, at two that read the same. No condition. -/
namespace Go.Proofs.Ytpjnbikkhfnjbaa
open Go Go.RowKit

theorem bnd_guard (op : BinOp) (a b : Operand) (xs ys : Array Value) (w : World) : (eqGuard op 47 a b (.agg xs) (.agg ys)).run Try.prog w = .ok () w := run_eqGuard_agg w op 47 a b xs ys (by kernel_rfl)
theorem bnd_same (d : Nat) (x y : Bnd) (w : World) : (Op.equalIn (d + 2) 47 (.agg #[.string x.name, .string x.src, .string x.dst, .int .i64 x.mn, .int .i64 x.mx]) (.agg #[.string y.name, .string y.src, .string y.dst, .int .i64 y.mn, .int .i64 y.mx])).run Try.prog w = .ok (decide (x = y)) w := by
  have hS : Try.prog.underlying 47 = some (.struct (Try.prog.fieldsOf 47)) := by kernel_rfl
  have hp : Try.prog.stoodInHeld 47 = false := by kernel_rfl
  have e1 := Try.underlying9
  have e2 := Try.underlying3
  rw [run_equalIn_agg w (d + 1) 47 _ _ hS hp]
  simp only [Program.fieldsOf, Try.underlying47]
  go_simp
  simp only [bytes_eq]
  cases x; cases y
  simp only [Bnd.mk.injEq]
  rename_i a b c d e a' b' c' d' e'
  by_cases h1 : a = a' <;> by_cases h2 : b = b' <;> by_cases h3 : c = c' <;> by_cases h4 : d = d' <;> by_cases h5 : e = e' <;> simp [h1, h2, h3, h4, h5]
theorem bnd_neq (x y : Bnd) (w : World) : (binOp .neq 47 (.agg #[.string x.name, .string x.src, .string x.dst, .int .i64 x.mn, .int .i64 x.mx]) (.agg #[.string y.name, .string y.src, .string y.dst, .int .i64 y.mn, .int .i64 y.mx])).run Try.prog w = .ok (.bool (!decide (x = y))) w := by
  rw [run_neq_struct, show (10000 : Nat) = 9998 + 2 from rfl, bnd_same]; rfl
end Go.Proofs.Ytpjnbikkhfnjbaa

/- Contracts: slices.Equal at texts and fields, slices.Index and slices.Contains at bonds, diff.both, diff.equal, diff.wider. No condition. -/
namespace Go.Proofs.Ytpjnbikkhfnjbaa
open Go Go.RowKit



set_option maxHeartbeats 1000000 in
theorem eqStrs_any_q (a b : List ByteArray) (va vb : Value) (w : World) (ha : Sl strL w va a) (hb : Sl strL w vb b) : Calls Try.prog 8 #[va, vb] w fun e w' => e = .returned (.bool (decide (a = b))) ∧ ∃ m, w' = w.drewN m := by
  obtain ⟨A, c, rfl, _, hcm⟩ := ha.form
  obtain ⟨B, d, rfl, _, hdm⟩ := hb.form
  unfold maxLen at hcm hdm
  by_cases hl : a.length = b.length
  case neg =>
    have HE : Hid (decide (a = b) = false) := decide_eq_false fun e => hl (by rw [e])
    have hl' : decide ((a.length : Int) = (b.length : Int)) = false := decide_eq_false (by omega)
    have hl2 : ((a.length : Int) == (b.length : Int)) = false := by rw [beq_eq_false_iff_ne]; omega
    clear ha hb hl
    go_enter Try.func8, Try.ntmps8
    go_wp2_with fail
    go_ret
    exact ⟨by rw [HE.out]; rfl, 0, rfl⟩
  have HL := Lib.hid hl
  have hlb : a.length ≤ b.length := by omega
  rw [← hl]
  clear hl
  go_enter Try.func8, Try.ntmps8
  go_wp2_with fail
  go_loopw [13] (fun i wr => ∃ k : Nat, k ≤ a.length ∧ i = .int .i64 k ∧ Below w.heap.size w wr ∧ Hid (∃ m, wr = w.drewN m) ∧ Hid (∀ j x y, j < k → a[j]? = some x → b[j]? = some y → x = y)) (fun i _ => a.length - (intOf i).toNat)
  case atStart => exact ⟨0, Nat.zero_le _, rfl, Below.refl _ _, ⟨0, rfl⟩, fun j x y hj => absurd hj (Nat.not_lt_zero _)⟩
  case round =>
    obtain ⟨k, hk, rfl, hbr, HM, HA⟩ := hrel
    by_cases hlt : k < a.length
    · obtain ⟨x, hx⟩ : ∃ d, a[k]? = some d := ⟨_, List.getElem?_eq_getElem hlt⟩
      obtain ⟨y, hy⟩ : ∃ d, b[k]? = some d := ⟨_, List.getElem?_eq_getElem (by omega)⟩
      have hlt' : (k : Int) < (a.length : Int) := by omega
      obtain ⟨b1, o1, rfl, _, x0⟩ := str_at (ha.below hbr) hx
      obtain ⟨b2, o2, rfl, _, y0⟩ := str_at (hb.below hbr) hy
      have HX := Lib.hid hx
      have HY := Lib.hid hy
      clear hx hy
      by_cases hq : x = y
      · have HS : Hid (∀ j x y, j < k + 1 → a[j]? = some x → b[j]? = some y → x = y) := fun j p q hj hp hq2 => by
          by_cases hjk : j = k
          · subst hjk
            have e1 := HX.out.symm.trans hp
            have e2 := HY.out.symm.trans hq2
            injection e1 with e1; injection e2 with e2
            rw [← e1, ← e2]; exact hq
          · exact HA.out j p q (by omega) hp hq2
        subst hq
        clear ha hb
        go_wp2_with fail
        go_quiet (fail)
        go_wp2_with fail
        go_roundw
        case rel => exact ⟨k + 1, by omega, by go_num, below_drewN hbr _, drewN_step HM.out nq, HS⟩
        case measure => simp [intOf]; omega
      · have HE : Hid (decide (a = b) = false) := decide_eq_false fun e => by
          have e1 := HX.out
          rw [e, HY.out] at e1
          injection e1 with e1
          exact hq e1.symm
        have hqb : (x.toList == y.toList) = false := by rw [bytes_beq]; exact decide_eq_false hq
        have hqc : ¬ x.toList = y.toList := by rw [bytes_eq]; exact hq
        clear ha hb hq
        go_wp2_with fail
        go_quiet (fail)
        go_wp2_with fail
        go_ret
        exact ⟨by rw [HE.out]; rfl, drewN_step HM.out nq⟩
    · obtain rfl : k = a.length := by omega
      have HE : Hid (decide (a = b) = true) := decide_eq_true (lists_eq HL.out HA.out)
      clear ha hb
      go_wp2_with fail
      go_ret
      exact ⟨by rw [HE.out]; rfl, HM.out⟩
theorem eqStrs_any (a b : List ByteArray) (va vb : Value) (w : World) (ha : Sl strL w va a) (hb : Sl strL w vb b) : Calls Try.prog 8 #[va, vb] w fun e w' => e = .returned (.bool (decide (a = b))) ∧ Below w.heap.size w w' :=
  (eqStrs_any_q a b va vb w ha hb).mono fun _ _ ⟨h, m, hm⟩ => ⟨h, by rw [hm]; exact below_drewN (Below.refl _ _) m⟩
theorem bnd_eql (x y : Bnd) (w : World) : (binOp .eql 47 (.agg #[.string x.name, .string x.src, .string x.dst, .int .i64 x.mn, .int .i64 x.mx]) (.agg #[.string y.name, .string y.src, .string y.dst, .int .i64 y.mn, .int .i64 y.mx])).run Try.prog w = .ok (.bool (decide (x = y))) w := by
  rw [run_eql_struct, show (10000 : Nat) = 9998 + 2 from rfl, bnd_same]; rfl
theorem both_any (a b : Scm) (k1 b1 k2 b2 : Value) (w : World) (h1 : ScmR w k1 b1 a) (h2 : ScmR w k2 b2 b) :
    Calls Try.prog 6 #[.agg #[k1, b1], .agg #[k2, b2]] w fun e w' => e = .returned (errV (bothE a b)) ∧ Below w.heap.size w w' := by
  obtain ⟨A1, c1, rfl, _, _⟩ := h1.1.form
  obtain ⟨A2, c2, rfl, _, _⟩ := h1.2.form
  obtain ⟨A3, c3, rfl, _, _⟩ := h2.1.form
  obtain ⟨A4, c4, rfl, _, _⟩ := h2.2.form
  have hb0 : Below w.heap.size w ((w.alloc (.cells #[.slice A1 a.kinds.length c1, .slice A2 a.bonds.length c2] 25)).alloc (.cells #[.slice A3 b.kinds.length c3, .slice A4 b.bonds.length c4] 25)) := ((Below.refl _ _).alloc (Nat.le_refl _) _).alloc (by simp) _
  have g1 : ((w.alloc (.cells #[.slice A1 a.kinds.length c1, .slice A2 a.bonds.length c2] 25)).alloc (.cells #[.slice A3 b.kinds.length c3, .slice A4 b.bonds.length c4] 25)).heap[w.heap.size + 1]? = some (.cells #[.slice A3 b.kinds.length c3, .slice A4 b.bonds.length c4] 25 (0, 0)) := by
    have := heap_alloc_new (w.alloc (.cells #[.slice A1 a.kinds.length c1, .slice A2 a.bonds.length c2] 25)) (.cells #[.slice A3 b.kinds.length c3, .slice A4 b.bonds.length c4] 25); simpa using this
  have hr1 := sright_any a _ _ _ (h1.below hb0)
  have HB := Lib.hid h2
  have HBE : Hid (bothE a b = if (scmE a).2 = 0 then (scmE b).2 else (scmE a).2) := rfl
  have hsz : w.heap.size + 1 < ((w.alloc (.cells #[.slice A1 a.kinds.length c1, .slice A2 a.bonds.length c2] 25)).alloc (.cells #[.slice A3 b.kinds.length c3, .slice A4 b.bonds.length c4] 25)).heap.size := by simp
  have HG := Lib.hid g1
  generalize hz : (scmE a).2 = z at *
  generalize hbe : bothE a b = be at *
  clear h1 h2 g1 hz hbe
  go_enter Try.func6, Try.ntmps6
  go_wp2_with fail
  refine hr1.mono ?_
  clear hr1
  rintro e w1 ⟨rfl, hb1⟩
  have hB1 := hb0.trans (hb1.mono hb0.size)
  have g2 := (hb1.block _ hsz).trans HG.out
  by_cases he : z = 0
  case neg =>
    have HE : Hid (errV be = .iface 83 (.int .i64 z)) := by unfold Hid; rw [HBE.out, if_neg he]; exact errV_some he
    rw [errV_some he]
    clear he hsz
    go_wp2_with fail
    go_ret
    exact ⟨by rw [HE.out]; rfl, hB1⟩
  have HE : Hid (be = (scmE b).2) := by unfold Hid; rw [HBE.out, if_pos he]
  have hr2 := sright_any b _ _ w1 (HB.out.below hB1)
  have x0 := block_cell g2 0
  have x1 := block_cell g2 1
  rw [errV_zero he]
  generalize (scmE b).2 = z2 at *
  clear he hsz g2
  go_wp2_with fail
  refine hr2.mono ?_
  clear hr2
  rintro e w2 ⟨rfl, hb2⟩
  go_wp2_with fail
  go_ret
  exact ⟨by rw [HE.out]; rfl, hB1.trans (hb2.mono hB1.size)⟩
end Go.Proofs.Ytpjnbikkhfnjbaa

/- Contracts: diff.wider, diff.Loses. No condition. -/
namespace Go.Proofs.Ytpjnbikkhfnjbaa
open Go Go.RowKit


set_option maxHeartbeats 2000000 in
theorem wider1_any (x y : Bnd) (w : World) (hx : x.ok) (hy : y.ok) :
    Calls Try.prog 11 #[.agg #[.string x.name, .string x.src, .string x.dst, .int .i64 x.mn, .int .i64 x.mx], .agg #[.string y.name, .string y.src, .string y.dst, .int .i64 y.mn, .int .i64 y.mx]] w fun e w' => e = .returned (.bool (bondW1 x y)) ∧ Below w.heap.size w w' := by
  have hb0 : Below w.heap.size w ((w.alloc (.cells #[.string x.name, .string x.src, .string x.dst, .int .i64 x.mn, .int .i64 x.mx] 47)).alloc (.cells #[.string y.name, .string y.src, .string y.dst, .int .i64 y.mn, .int .i64 y.mx] 47)) := ((Below.refl _ _).alloc (Nat.le_refl _) _).alloc (by simp) _
  have HE : Hid (bondW1 x y = ((x.src.toList == y.src.toList) && (x.dst.toList == y.dst.toList) && decide (y.mn ≤ x.mn) && ((y.mx == -1) || ((x.mx != -1) && decide (x.mx ≤ y.mx))))) := by
    unfold Hid bondW1
    rw [bytes_beq, bytes_beq]
    have e1 : (y.mx == -1) = decide (y.mx = -1) := by rw [Bool.eq_iff_iff]; simp
    have e2 : (x.mx != -1) = !decide (x.mx = -1) := by rw [Bool.eq_iff_iff]; simp
    rw [e1, e2]
  clear hx hy
  cases e1 : (x.src.toList == y.src.toList) with
  | false =>
    rw [HE.out, e1]
    clear HE
    go_enter Try.func11, Try.ntmps11
    go_wp2_with fail
    go_ret
    exact ⟨rfl, hb0⟩
  | true =>
    cases e2 : (x.dst.toList == y.dst.toList) with
    | false =>
      rw [HE.out, e1, e2]
      clear HE
      go_enter Try.func11, Try.ntmps11
      go_wp2_with fail
      go_ret
      exact ⟨rfl, hb0⟩
    | true =>
      cases e3 : decide (y.mn ≤ x.mn) with
      | false =>
        rw [HE.out, e1, e2, e3]
        clear HE
        go_enter Try.func11, Try.ntmps11
        go_wp2_with fail
        go_ret
        exact ⟨rfl, hb0⟩
      | true =>
        cases e4 : (y.mx == -1) with
        | true =>
          rw [HE.out, e1, e2, e3, e4]
          clear HE
          go_enter Try.func11, Try.ntmps11
          go_wp2_with fail
          go_ret
          exact ⟨rfl, hb0⟩
        | false =>
          cases e5 : (x.mx != -1) with
          | false =>
            rw [HE.out, e1, e2, e3, e4, e5]
            clear HE
            go_enter Try.func11, Try.ntmps11
            go_wp2_with fail
            go_ret
            exact ⟨rfl, hb0⟩
          | true =>
            cases e6 : decide (x.mx ≤ y.mx) with
            | false =>
              rw [HE.out, e1, e2, e3, e4, e5, e6]
              clear HE
              go_enter Try.func11, Try.ntmps11
              go_wp2_with fail
              go_ret
              exact ⟨rfl, hb0⟩
            | true =>
              rw [HE.out, e1, e2, e3, e4, e5, e6]
              clear HE
              go_enter Try.func11, Try.ntmps11
              go_wp2_with fail
              go_ret
              exact ⟨rfl, hb0⟩

/-- A list of texts, and an error. -/
def RetLs (l : List ByteArray) (err : Int) (w : World) (e : Ending) (w' : World) : Prop := ∃ v, e = .returned (.tuple #[v, errV err]) ∧ Sl strL w' v l ∧ Below w.heap.size w w'
theorem filt_step {D : Type} {l : List D} {p : D → Bool} {nm : D → ByteArray} {k : Nat} {d : D} (hd : l[k]? = some d) {r u : List ByteArray} (h : u = r ++ ((l.drop k).filter p).map nm) :
    u = (r ++ if p d then [nm d] else []) ++ ((l.drop (k + 1)).filter p).map nm := by
  rw [h, drop_cons hd, List.filter_cons]
  cases p d <;> simp
theorem lostK_neg {l : List Knd} {k : Knd} (h : kFind l k.name < 0) : lostK l k = true := by
  unfold lostK; split
  · simp [h]
  · rfl
theorem lostK_at {l : List Knd} {k d : Knd} {i : Nat} (h : kFind l k.name = i) (hd : l[i]? = some d) : lostK l k = !eqK k d := by
  unfold lostK; rw [h, Int.toNat_natCast, hd]
  simp only
  rw [decide_eq_false (by omega), Bool.false_or]
-- the append of a name, and the round's end
end Go.Proofs.Ytpjnbikkhfnjbaa

/- Contracts: the parts of diff.fields. No condition. -/
namespace Go.Proofs.Ytpjnbikkhfnjbaa
open Go Go.RowKit



set_option maxHeartbeats 400000 in
theorem idx_flds (g : Nat) (caps : Array Value) (eg : ∀ args w, (callFunc g args).run Try.prog w = .ok (.enter g args) w) (p : Fld → Bool) (l : List (Fld)) (v : Value) (w : World) (hv : Sl fldL w v l)
    (hp : PredB Try.prog g caps fldV p w) :
    Calls Try.prog 19 #[v, .func (.func g) #[] caps] w fun e w' => e = .returned (.int .i64 (idxI p l)) ∧ Below w.heap.size w w' := by
  obtain ⟨A, c, rfl, hlc, hcm⟩ := hv.form
  unfold maxLen at hcm
  go_enter Try.func19, Try.ntmps19
  go_wp2_with fail
  go_loopw [8] (fun i wr => ∃ k : Nat, k ≤ l.length ∧ i = .int .i64 k ∧ Below w.heap.size w wr ∧ Hid (∀ j x, j < k → l[j]? = some x → p x = false)) (fun i _ => l.length - (intOf i).toNat)
  case atStart => exact ⟨0, Nat.zero_le _, rfl, Below.refl _ _, fun j x hj => absurd hj (Nat.not_lt_zero _)⟩
  case round =>
    obtain ⟨k, hk, rfl, hb, HA⟩ := hrel
    by_cases hlt : k < l.length
    · obtain ⟨d, hd⟩ : ∃ d, l[k]? = some d := ⟨_, List.getElem?_eq_getElem hlt⟩
      obtain ⟨b, o, rfl, hok, c0, c1, c2, c3⟩ := fld_at (hv.below hb) hd
      have hcall := hp d (.agg #[.string d.name, .int .i64 d.ty, .bool d.must, .bool d.key]) wr hb ⟨rfl, hok⟩
      clear hok
      have HD : Hid (l[k]? = some d) := hd
      clear hd hp hv
      cases hq : p d with
      | true =>
        rw [hq] at hcall
        have HQ : Hid (p d = true) := hq
        clear hq
        go_wp2_with (go_at_fn g; refine hcall.mono ?_; rintro e w' ⟨rfl, hb2⟩)
        go_ret
        exact ⟨ret_int (idxI_hit HA.out HD.out HQ.out).symm, hb.trans (hb2.mono hb.size)⟩
      | false =>
        rw [hq] at hcall
        have HQ : Hid (p d = false) := hq
        clear hq
        go_wp2_with (go_at_fn g; refine hcall.mono ?_; rintro e w' ⟨rfl, hb2⟩)
        go_roundw
        case rel => exact ⟨k + 1, by omega, by go_num, hb.trans (hb2.mono hb.size), miss_step HA.out HD.out HQ.out⟩
        case measure => simp [intOf]; omega
    · have hkl : k = l.length := by omega
      subst hkl
      clear hp hv
      go_wp2_with fail
      go_ret
      exact ⟨ret_int (idxI_miss HA.out).symm, hb⟩
theorem cont_flds (g : Nat) (caps : Array Value) (eg : ∀ args w, (callFunc g args).run Try.prog w = .ok (.enter g args) w) (p : Fld → Bool) (l : List (Fld)) (v : Value) (w : World) (hv : Sl fldL w v l)
    (hp : PredB Try.prog g caps fldV p w) :
    Calls Try.prog 21 #[v, .func (.func g) #[] caps] w fun e w' => e = .returned (.bool (l.any p)) ∧ Below w.heap.size w w' := by
  have h1 := idx_flds g caps eg p l v w hv hp
  have h2 := idxI_any p l
  have H2 := Lib.hid h2
  clear h2 hv hp eg
  go_enter Try.func21, Try.ntmps21
  go_wp2_with (go_at_call 19; refine h1.mono ?_; rintro e w' ⟨rfl, hb⟩)
  go_ret
  exact ⟨ret_bool H2.out, hb⟩
theorem ff1_any (d : Fld) (name : ByteArray) (u : Value) (bk : Nat) (w : World) (hu : fldV w d u) (hc : w.cell? ⟨bk, 0, none⟩ = some (.string name)) :
    Calls Try.prog 20 #[u, .pointer (some ⟨bk, 0, none⟩)] w fun e w' => e = .returned (.bool (decide (d.name = name))) ∧ Below w.heap.size w w' := by
  obtain ⟨rfl, _⟩ := hu
  have hlt := World.block_lt_of_cell? _ _ hc
  have hqb := bytes_beq d.name name
  generalize decide (d.name = name) = q at *
  go_enter Try.func20, Try.ntmps20
  go_wp2_with fail
  go_ret
  exact ⟨rfl, (Below.refl _ _).alloc (Nat.le_refl _) _⟩
theorem fFind_any (l : List Fld) (name : ByteArray) (v : Value) (w : World) (hv : Sl fldL w v l) :
    Calls Try.prog 18 #[v, .string name] w fun e w' => e = .returned (.int .i64 (fFind l name)) ∧ Below w.heap.size w w' := by
  have hb0 : Below w.heap.size w (w.alloc (.cells #[.string name] 9)) := (Below.refl _ _).alloc (Nat.le_refl _) _
  have h1 := idx_flds 20 #[.pointer (some ⟨w.heap.size, 0, none⟩)] (by intro args w; kernel_rfl) (fun k => decide (k.name = name)) l v _ (hv.below hb0)
    (fun d u wx hx hu => ff1_any d name u w.heap.size wx hu (cell_below hx (by rw [World.cell?_alloc_at _ _ _ _ rfl]; rfl)))
  obtain ⟨A, c, rfl, _, _⟩ := hv.form
  clear hv
  go_enter Try.func18, Try.ntmps18
  go_wp2_with fail
  refine h1.mono ?_
  rintro e w2 ⟨rfl, hb2⟩
  go_wp2_with fail
  go_ret
  exact ⟨rfl, hb0.trans (hb2.mono (by simp))⟩
theorem fFind_cases (l : List Fld) (nm : ByteArray) : fFind l nm < 0 ∨ ∃ (i : Nat) (d : Fld), fFind l nm = i ∧ l[i]? = some d := by
  rcases Int.lt_or_le (fFind l nm) 0 with h | h
  · exact .inl h
  · obtain ⟨k, d, h1, h2, _⟩ := idxI_nonneg h
    exact .inr ⟨k, d, h1, h2⟩
theorem okF_neg {l : List Fld} {f : Fld} (h : fFind l f.name < 0) : okF l f = false := by
  unfold okF; split
  · simp [h]
  · rfl
theorem okF_at {l : List Fld} {f d : Fld} {i : Nat} (h : fFind l f.name = i) (hd : l[i]? = some d) : okF l f = (decide (d.ty = f.ty) && !(d.must && !f.must) && !(d.key && !f.key)) := by
  unfold okF; rw [h, Int.toNat_natCast, hd]
  simp only
  rw [decide_eq_false (by omega)]; simp
theorem ff2_any (a : List Fld) (d : Fld) (u va : Value) (bf ba : Nat) (w : World) (hu : fldV w d u) (hva : Sl fldL w va a) (hf : w.cell? ⟨bf, 0, none⟩ = some (.func (.func 18) #[] #[])) (ha : w.cell? ⟨ba, 0, none⟩ = some va) :
    Calls Try.prog 22 #[u, .pointer (some ⟨bf, 0, none⟩), .pointer (some ⟨ba, 0, none⟩)] w fun e w' => e = .returned (.bool (d.must && decide (fFind a d.name < 0))) ∧ Below w.heap.size w w' := by
  obtain ⟨rfl, _⟩ := hu
  obtain ⟨A, c, rfl, _, _⟩ := hva.form
  have hlf := World.block_lt_of_cell? _ _ hf
  have hla := World.block_lt_of_cell? _ _ ha
  have hb0 : Below w.heap.size w (w.alloc (.cells #[.string d.name, .int .i64 d.ty, .bool d.must, .bool d.key] 31)) := (Below.refl _ _).alloc (Nat.le_refl _) _
  have hcall := fFind_any a d.name _ _ (hva.below hb0)
  have hf := cell_below hb0 hf
  have ha := cell_below hb0 ha
  generalize fFind a d.name = z at *
  clear hva
  generalize d.must = m at *
  cases m with
  | false =>
    clear hcall
    go_enter Try.func22, Try.ntmps22
    go_wp2_with fail
    go_ret
    exact ⟨rfl, hb0⟩
  | true =>
    go_enter Try.func22, Try.ntmps22
    go_wp2_with fail
    refine hcall.mono ?_
    clear hcall
    rintro e w2 ⟨rfl, hb2⟩
    go_wp2_with fail
    go_ret
    exact ⟨rfl, hb0.trans (hb2.mono hb0.size)⟩
end Go.Proofs.Ytpjnbikkhfnjbaa
