/- Parts: ChB, DelK, ChC, ChD, ChE, ChF, ChG, HeldX, ChH, ChI, ChJ0, ChJ2, ChJ3, ChJ6, ChJ8, ChJ, ChQ. -/
import Derived.Test.YtkegnmclhkpbkaaGreatMg21
import Derived.Deep.RegionLaw
import Derived.Test.YtkegnmclhkpbkaaGreatMg07
import Derived.Test.YtkegnmclhkpbkaaGreatMg13
import Derived.Deep.RegionHeld3
import Derived.Test.YtkegnmclhkpbkaaGreatMg02
import Derived.OrdersHeld
import Derived.Test.YtkegnmclhkpbkaaGreatMg08
import Derived.Test.YtkegnmclhkpbkaaGreatMg18
import Derived.Test.YtkegnmclhkpbkaaGreatMg06
/- Contract: change.add. -/
namespace Go.Proofs.YtkegnmclhkpbkaaGreat
open Go Go.RowKit


def addE (fs : List Fld) (f : Fld) (v : Val) : Int :=
  if chas fs f.name then 7 else if f.key = true ∨ (f.must = true ∧ v.ty = 0) then 3 else if v.ty = 0 then 0 else if valE v = 0 then (if v.ty = f.ty then 0 else 8) else valE v
def addF (fs : List Fld) (f : Fld) : List Fld := fs.take (cpos fs f.name) ++ f :: fs.drop (cpos fs f.name)
/-- What comes of a change of one kind's fields. -/
def RetKF (B : Nat) (vk vb : Value) (s : Scm) (err : Int) (w : World) (e : Ending) (w' : World) : Prop :=
  e = .returned (errV err) ∧ (err = 0 → ∃ xs, OwnS w' B vk vb s xs) ∧ Below B w w' ∧ Same 25 w w' ∧ w.heap.size ≤ w'.heap.size
end Go.Proofs.YtkegnmclhkpbkaaGreat

/- Contracts: slices.Delete of one field, of one kind, of one bond. -/
namespace Go.Proofs.YtkegnmclhkpbkaaGreat
open Go Go.RowKit



end Go.Proofs.YtkegnmclhkpbkaaGreat

/- Contract: change.rename. -/
namespace Go.Proofs.YtkegnmclhkpbkaaGreat
open Go Go.RowKit


theorem chas_some {l : List Fld} {nm : ByteArray} (h : chas l nm = true) : ∃ f, l[cpos l nm]? = some f := by
  unfold chas eqAt at h
  cases hd : l[cpos l nm]? with
  | none => rw [hd] at h; simp at h
  | some d => exact ⟨d, rfl⟩
def renE (fs : List Fld) (nm tow : ByteArray) : Int := if chas fs nm then (if nameE tow = 0 then (if chas fs tow then 7 else 0) else nameE tow) else 5
def delF (fs : List Fld) (nm : ByteArray) : List Fld := fs.take (cpos fs nm) ++ fs.drop (cpos fs nm + 1)
def renF (fs : List Fld) (nm tow : ByteArray) : List Fld := match fs[cpos fs nm]? with | some f => addF (delF fs nm) ⟨tow, f.ty, f.must, f.key⟩ | none => fs
theorem chain_del {l : List Fld} (h : Rise l) (p : Nat) : Rise (l.take p ++ l.drop (p + 1)) := by
  unfold Rise at *
  rw [← List.eraseIdx_eq_take_drop_succ]
  exact h.sublist (List.eraseIdx_sublist _ _)
end Go.Proofs.YtkegnmclhkpbkaaGreat

/- Contract: change.fields. -/
namespace Go.Proofs.YtkegnmclhkpbkaaGreat
open Go Go.RowKit


structure Chg where
  what : Int
  name : ByteArray
  kind : Knd
  bond : Bnd
  fld : Fld
  val : Val
  tow : ByteArray
def chgCells (c : Chg) (vo vf : Value) : Array Value := #[.int .i64 c.what, .string c.name, .string c.kind.name, vo, vf, .string c.bond.name, .string c.bond.src, .string c.bond.dst, .int .i64 c.bond.mn, .int .i64 c.bond.mx, .string c.fld.name, .int .i64 c.fld.ty, .bool c.fld.must, .bool c.fld.key, .int .i64 c.val.ty, .int .i64 c.val.n, .string c.val.s, .string c.tow]
structure ChgR (w : World) (vo vf : Value) (c : Chg) : Prop where
  n : Sm c.name
  kn : Sm c.kind.name
  ko : Sl strL w vo c.kind.ofs
  kf : Sl fldL w vf c.kind.fields
  b : c.bond.ok
  f : c.fld.ok
  v : c.val.ok
  t : Sm c.tow
theorem ChgR.below {w w' : World} {vo vf : Value} {c : Chg} (h : ChgR w vo vf c) (hb : Below w.heap.size w w') : ChgR w' vo vf c := ⟨h.n, h.kn, h.ko.below hb, h.kf.below hb, h.b, h.f, h.v, h.t⟩
/-- A schema of the call's own, in a block. -/
structure SW (w : World) (B bs : Nat) (vk vb : Value) (s : Scm) (xs : List Value) : Prop where
  q : w.heap[bs]? = some (.cells #[vk, vb] 25 (0, 0))
  o : OwnS w B vk vb s xs
  l : B ≤ bs
/-- What comes of a change of a schema that lies in a block. -/
def RetSW (B bs : Nat) (s : Scm) (err : Int) (w : World) (e : Ending) (w' : World) : Prop :=
  e = .returned (errV err) ∧ (err = 0 → ∃ vk vb xs, SW w' B bs vk vb s xs) ∧ Below B w w' ∧ (∀ k c fr, k ≠ bs → w.heap[k]? = some (.cells c 25 fr) → w'.heap[k]? = some (.cells c 25 fr)) ∧ w.heap.size ≤ w'.heap.size
theorem RetKF.sw {B bs : Nat} {vk vb : Value} {s s' : Scm} {err err' : Int} {w w0 w' : World} {e : Ending} (h : RetKF B vk vb s err w e w') (hs : s = s') (he : err = err') (hb : Below B w0 w) (hm : Same 25 w0 w) (hsz : w0.heap.size ≤ w.heap.size) (hq : w.heap[bs]? = some (.cells #[vk, vb] 25 (0, 0))) (hl : B ≤ bs) : RetSW B bs s' err' w0 e w' := by
  subst hs; subst he
  obtain ⟨h1, h2, h3, h4, h5⟩ := h
  refine ⟨h1, fun h => ?_, hb.trans h3, fun k c fr _ hk => h4 _ _ _ (hm _ _ _ hk), by omega⟩
  obtain ⟨xs, hx⟩ := h2 h
  exact ⟨vk, vb, xs, h4 _ _ _ hq, hx, hl⟩
def fldE2 (d : Knd) (c : Chg) : Int := if c.what = 3 then addE d.fields c.fld c.val else if c.what = 7 then renE d.fields c.fld.name c.tow else if chas d.fields c.fld.name then 0 else 5
def fldF2 (d : Knd) (c : Chg) : List Fld := if c.what = 3 then addF d.fields c.fld else if c.what = 7 then renF d.fields c.fld.name c.tow else delF d.fields c.fld.name
def fieldsE (s : Scm) (c : Chg) : Int := match s.kinds[(kFind s.kinds c.name).toNat]? with | some d => if kFind s.kinds c.name < 0 then 5 else fldE2 d c | none => 5
def fieldsS (s : Scm) (c : Chg) : Scm := match s.kinds[(kFind s.kinds c.name).toNat]? with | some d => setF s (kFind s.kinds c.name).toNat d (fldF2 d c) | none => s
theorem kFind_cases (l : List Knd) (nm : ByteArray) : kFind l nm < 0 ∨ ∃ (i : Nat) (d : Knd), kFind l nm = i ∧ l[i]? = some d := by
  rcases Int.lt_or_le (kFind l nm) 0 with h | h
  · exact .inl h
  · obtain ⟨k, d, h1, h2, _⟩ := idxI_nonneg h
    exact .inr ⟨k, d, h1, h2⟩
end Go.Proofs.YtkegnmclhkpbkaaGreat

/- Contract: change.drop. -/
namespace Go.Proofs.YtkegnmclhkpbkaaGreat
open Go Go.RowKit



def kndW (w : World) (d : Knd) (u : Value) : Prop := ∃ a n c b m e, u = .agg #[.string d.name, .slice a n c, .slice b m e] ∧ Sl strL w (.slice a n c) d.ofs
set_option maxHeartbeats 400000 in
theorem idx_kndw (g : Nat) (caps : Array Value) (eg : ∀ args w, (callFunc g args).run Tryz.prog w = .ok (.enter g args) w) (p : Knd → Bool) (l : List (Knd)) (v : Value) (w : World) (hv : Sl kndL w v l)
    (hp : PredB Tryz.prog g caps kndW p w) :
    Calls Tryz.prog 107 #[v, .func (.func g) #[] caps] w fun e w' => e = .returned (.int .i64 (idxI p l)) ∧ Below w.heap.size w w' := by
  obtain ⟨A, c, rfl, hlc, hcm⟩ := hv.form
  unfold maxLen at hcm
  go_enter Tryz.func107, Tryz.ntmps107
  go_wp2_with fail
  go_loopw [8] (fun i wr => ∃ k : Nat, k ≤ l.length ∧ i = .int .i64 k ∧ Below w.heap.size w wr ∧ Hid (∀ j x, j < k → l[j]? = some x → p x = false)) (fun i _ => l.length - (intOf i).toNat)
  case atStart => exact ⟨0, Nat.zero_le _, rfl, Below.refl _ _, fun j x hj => absurd hj (Nat.not_lt_zero _)⟩
  case round =>
    obtain ⟨k, hk, rfl, hb, HA⟩ := hrel
    by_cases hlt : k < l.length
    · obtain ⟨d, hd⟩ : ∃ d, l[k]? = some d := ⟨_, List.getElem?_eq_getElem hlt⟩
      obtain ⟨b, o, rfl, u, x, h1, h2, h3, c0, c1, c2⟩ := knd_at (hv.below hb) hd
      obtain ⟨A1, q1, rfl, _, _⟩ := h2.form
      obtain ⟨A2, q2, rfl, _, _⟩ := h3.form
      have hcall := hp d (.agg #[.string d.name, .slice A1 d.ofs.length q1, .slice A2 d.fields.length q2]) wr hb ⟨A1, _, q1, A2, _, q2, rfl, h2⟩
      clear h2 h3
      have HD : Hid (l[k]? = some d) := hd
      clear hd hp hv
      cases hq : p d with
      | true =>
        rw [hq] at hcall
        have HQ : Hid (p d = true) := hq
        clear hq
        go_wp2_with (go_at_fn g; refine hcall.mono ?_; rintro e w' ⟨rfl, hb2⟩)
        go_ret
        exact ⟨ret_int (idxI_hit HA.out HD.out HQ.out).symm, hb.trans (hb2.mono hb.size)⟩
      | false =>
        rw [hq] at hcall
        have HQ : Hid (p d = false) := hq
        clear hq
        go_wp2_with (go_at_fn g; refine hcall.mono ?_; rintro e w' ⟨rfl, hb2⟩)
        go_roundw
        case rel => exact ⟨k + 1, by omega, by go_num, hb.trans (hb2.mono hb.size), miss_step HA.out HD.out HQ.out⟩
        case measure => simp [intOf]; omega
    · have hkl : k = l.length := by omega
      subst hkl
      clear hp hv
      go_wp2_with fail
      go_ret
      exact ⟨ret_int (idxI_miss HA.out).symm, hb⟩
def usedB (s : Scm) (nm : ByteArray) : Bool := (s.kinds.any fun k => k.ofs.any fun y => decide (nm = y)) || (s.bonds.any fun b => decide (b.src = nm) || decide (b.dst = nm))
def dropE (s : Scm) (nm : ByteArray) : Int := if kFind s.kinds nm < 0 then 5 else if usedB s nm then 6 else 0
def dropS (s : Scm) (nm : ByteArray) : Scm := ⟨s.kinds.take (kFind s.kinds nm).toNat ++ s.kinds.drop ((kFind s.kinds nm).toNat + 1), s.bonds⟩
theorem OwnKnds.split {w : World} {B : Nat} : ∀ {l : List Knd} {xs : List Value} (i : Nat), i ≤ l.length → OwnKnds w B l xs → OwnKnds w B (l.take i) (xs.take (i * 3)) ∧ OwnKnds w B (l.drop i) (xs.drop (i * 3))
  | l, xs, 0, _, h => by simp only [List.take_zero, Nat.zero_mul, List.drop_zero]; exact ⟨rfl, h⟩
  | [], xs, i + 1, hi, h => by simp at hi
  | d :: l, xs, i + 1, hi, h => by
    obtain ⟨u, x, ys, rfl, h1, h2, h3, h4, h5, h6⟩ := h
    obtain ⟨k1, k2⟩ := h6.split i (by simpa using hi)
    have e : (i + 1) * 3 = i * 3 + 1 + 1 + 1 := by omega
    rw [e]
    exact ⟨⟨u, x, ys.take (i * 3), rfl, h1, h2, h3, h4, h5, k1⟩, k2⟩
theorem FDist.drop1 {xs : List Value} {n i : Nat} (h : FDist xs) (hl : xs.length = n * 3) (hi : i < n) : FDist (xs.take (i * 3) ++ xs.drop ((i + 1) * 3)) := by
  have key : ∀ j x, (xs.take (i * 3) ++ xs.drop ((i + 1) * 3))[j * 3 + 2]? = some x → ∃ j', xs[j' * 3 + 2]? = some x ∧ j' = if j < i then j else j + 1 := fun j x hx => by
    have htl : (xs.take (i * 3)).length = i * 3 := by rw [List.length_take]; omega
    by_cases hj : j < i
    · rw [List.getElem?_append_left (by omega), List.getElem?_take, if_pos (by omega)] at hx
      exact ⟨j, hx, by rw [if_pos hj]⟩
    · rw [List.getElem?_append_right (by omega), htl, List.getElem?_drop, show (i + 1) * 3 + (j * 3 + 2 - i * 3) = (j + 1) * 3 + 2 by omega] at hx
      exact ⟨j + 1, hx, by rw [if_neg hj]⟩
  intro a b x y k hab hx hy hk
  obtain ⟨a', ha, ea⟩ := key a x hx
  obtain ⟨b', hb, eb⟩ := key b y hy
  refine h a' b' x y k ?_ ha hb hk
  rw [ea, eb]
  split <;> split <;> omega
theorem OwnS.drop1 {w : World} {B : Nat} {vk vk' vb : Value} {s : Scm} {xs : List Value} {i m : Nat} (h : OwnS w B vk vb s xs) (hm : s.kinds.length = m + 1) (hi : i ≤ m) {w' : World} (hn : Own w' B 177 3 vk' m (xs.take (i * 3) ++ xs.drop ((i + 1) * 3)))
    (h1 : Same 9 w w') (h2 : Same 135 w w') (h3 : Same 109 w w') : OwnS w' B vk' vb ⟨s.kinds.take i ++ s.kinds.drop (i + 1), s.bonds⟩ (xs.take (i * 3) ++ xs.drop ((i + 1) * 3)) := by
  refine ⟨?_, (((h.o.split i (by omega)).1.append (h.o.split (i + 1) (by omega)).2).same h1 h2), h.b.same h3, h.k, h.d.drop1 h.n.1 (by omega)⟩
  show Own w' B 177 3 vk' (s.kinds.take i ++ s.kinds.drop (i + 1)).length _
  have : (s.kinds.take i ++ s.kinds.drop (i + 1)).length = m := by simp; omega
  rw [this]
  exact hn
end Go.Proofs.YtkegnmclhkpbkaaGreat

/- Contract: change.drop. -/
namespace Go.Proofs.YtkegnmclhkpbkaaGreat
open Go Go.RowKit


end Go.Proofs.YtkegnmclhkpbkaaGreat

/- Contract: change.bonds. -/
namespace Go.Proofs.YtkegnmclhkpbkaaGreat
open Go Go.RowKit


theorem OwnS.setB {w w' : World} {B n : Nat} {vk vb vb' : Value} {s : Scm} {xs : List Value} {bs' : List Bnd} (h : OwnS w B vk vb s xs) (hn : n = bs'.length) (hb : Own w' B 109 5 vb' n (bs'.flatMap Bnd.enc)) (hk : ∀ x ∈ bs', x.ok)
    (h1 : Same 177 w w') (h2 : Same 9 w w') (h3 : Same 135 w w') : OwnS w' B vk vb' ⟨s.kinds, bs'⟩ xs := by
  subst hn
  exact ⟨h.n.same h1, h.o.same h2 h3, hb, hk, h.d⟩
def rngOf (b : Bnd) (mn mx : Int) : Bnd := ⟨b.name, b.src, b.dst, mn, mx⟩
theorem set_same {α : Type} {xs : List α} {k : Nat} {v : α} (h : xs[k]? = some v) : xs.set k v = xs := by
  apply List.ext_getElem?
  intro j
  rw [List.getElem?_set]
  split
  · rename_i e; subst e; split
    · exact h.symm
    · rename_i e; rw [List.getElem?_eq_none (by omega)] at h; cases h
  · rfl
theorem bnd_rng {l : List Bnd} {i : Nat} {d : Bnd} (hd : l[i]? = some d) (mn mx : Int) : ((l.flatMap Bnd.enc).set (i * 5 + 3) (.int .i64 mn)).set (i * 5 + 4) (.int .i64 mx) = (l.set i (rngOf d mn mx)).flatMap Bnd.enc := by
  rw [← flat_set Bnd.enc_len l i (rngOf d mn mx) (List.getElem?_eq_some_iff.1 hd).1]
  show _ = ((((((l.flatMap Bnd.enc).set (i * 5) (.string d.name)).set (i * 5 + 1) (.string d.src)).set (i * 5 + 1 + 1) (.string d.dst)).set (i * 5 + 1 + 1 + 1) (.int .i64 mn)).set (i * 5 + 1 + 1 + 1 + 1) (.int .i64 mx))
  rw [set_same (k := i * 5) (v := .string d.name) (flat_get (j := 0) Bnd.enc_len hd rfl), set_same (k := i * 5 + 1) (v := .string d.src) (flat_get (j := 1) Bnd.enc_len hd rfl), set_same (k := i * 5 + 1 + 1) (v := .string d.dst) (flat_get (j := 2) Bnd.enc_len hd rfl)]
def bondsE (s : Scm) (c : Chg) : Int := if bFind s.bonds c.name < 0 then 5 else 0
def bondsS (s : Scm) (c : Chg) : Scm := match s.bonds[(bFind s.bonds c.name).toNat]? with
  | some b => ⟨s.kinds, if c.what = 6 then s.bonds.take (bFind s.bonds c.name).toNat ++ s.bonds.drop ((bFind s.bonds c.name).toNat + 1) else s.bonds.set (bFind s.bonds c.name).toNat (rngOf b c.bond.mn c.bond.mx)⟩
  | none => s
theorem bFind_cases (l : List Bnd) (nm : ByteArray) : bFind l nm < 0 ∨ ∃ (i : Nat) (d : Bnd), bFind l nm = i ∧ l[i]? = some d := by
  rcases Int.lt_or_le (bFind l nm) 0 with h | h
  · exact .inl h
  · obtain ⟨k, d, h1, h2, _⟩ := idxI_nonneg h
    exact .inr ⟨k, d, h1, h2⟩
end Go.Proofs.YtkegnmclhkpbkaaGreat

/- Plain: a region that draws its order, whose loads may be taken first: what the loads read must stand behind each operation but the very last one (on which all others bear). No condition. -/
namespace Go.Proofs.YtkegnmclhkpbkaaGreat
open Go Go.RowKit
section
variable {P : Program} {ops : Array Oper} {Q : Exit → Act → World → Prop} {md : Region.Mode} {S : World → Prop} {n : Nat}

/-- Whatever order: S holds behind each operation but n. -/
def wpAnyX (P : Program) (md : Region.Mode) (ops : Array Oper) (Q : Exit → Act → World → Prop) (S : World → Prop) (n : Nat) : Nat → Array Bool → Act → World → Prop
  | 0, l, a, w => Region.ready md ops l = [] ∧ Q .normal a w
  | f + 1, l, a, w => (Region.ready md ops l = [] → Q .normal a w) ∧
    ∀ i ∈ Region.ready md ops l, wpOp P ops Q i (fun a' w' => (i ≠ n → S w') ∧ wpAnyX P md ops Q S n f (l.setIfInBounds i true) a' w') a w
theorem wpAny_of_x : ∀ (f : Nat) (l : Array Bool) (a : Act) (w : World), wpAnyX P md ops Q S n f l a w → wpAny P md ops Q f l a w
  | 0, _, _, _, h => h
  | f + 1, _, _, _, h => ⟨h.1, fun i hi => wpOp_mono (fun a' w' h' => wpAny_of_x f _ a' w' h'.2) (h.2 i hi)⟩
theorem wp_region_x {id : Nat} {a : Act} {w : World} (n f : Nat) (l : Array Bool) (S : World → Prop) (hm : P.follows .mixedOrders = true) (hf : ops.size = f) (hl : Array.replicate f false = l) (hS : S w.drew) (h : S w.drew → wpAnyX P .any ops Q S n f l a w.drew) : (Code.region id ops true).wp P Q a w := by
  subst hf; subst hl
  exact wp_region_any hm (wpAny_of_x _ _ _ _ (h hS))
theorem wpAnyX_first {i : Nat} {oi : Oper} {v : Value} (hi : ops[i]? = some oi) (hsel : ∀ (j : Nat) (o : Oper) cs b, ops[j]? = some o → o.op ≠ .select cs b) (hQ : ∀ c a w, Q (.panic c) (a.put oi.dst v) w → Q (.panic c) a w)
    (hs : Region.sinkB md ops n = true) (hc : tailB md ops n = true) (hn : n < ops.size) (hin : i < n) :
    ∀ (f : Nat) (l : Array Bool) (a : Act) (w : World), HeadInv md ops n l →
      (∀ j oj, ops[j]? = some oj → j ≠ i → l.getD j true = false → (∀ e ∈ oj.after, Region.binds md e = true → e.on ≠ i) → oi.apart ops oj = true) →
      i ∈ Region.ready md ops l → YieldsIf P ops S oi v a → S w → wpAnyX P md ops Q S n f (l.setIfInBounds i true) (a.put oi.dst v) w → wpAnyX P md ops Q S n (f + 1) l a w := by
  intro f
  induction f with
  | zero =>
    intro l a w _ _ hr hy hS H
    refine ⟨fun h => (by rw [h] at hr; cases hr), fun j hj => ?_⟩
    by_cases hji : j = i
    · subst hji; exact hy.wpOp hi hS ⟨fun _ => hS, H⟩
    · have := ready_mono hj hji
      rw [H.1] at this
      cases this
  | succ f ih =>
    intro l a w inv hfree hr hy hS H
    have hun := (mem_ready.1 hr).1
    refine ⟨fun h => (by rw [h] at hr; cases hr), fun j hj => ?_⟩
    have hjn : j < n := by
      rcases Nat.lt_or_ge j n with h | h
      · exact h
      · exact absurd hj (tail_waits2 hs hc hn inv _ i rfl hin hun j h)
    by_cases hji : j = i
    · subst hji; exact hy.wpOp hi hS ⟨fun _ => hS, H⟩
    · have h1 := H.2 j (ready_mono hj hji)
      obtain ⟨hjun, oj, hoj, hall⟩ := mem_ready.1 hj
      have hnot : ∀ e ∈ oj.after, Region.binds md e = true → e.on ≠ i := fun e he hb heq => by
        have h1 := hall e he hb
        rw [heq, getD_both hun] at h1
        cases h1
      have h2 := wpOp_putIf hoj (hfree j oj hoj hji hjun hnot) (fun cs b => hsel i oi cs b hi) (fun cs b => hsel j oj cs b hoj) hQ hy h1
      have hfree' : ∀ k ok, ops[k]? = some ok → k ≠ i → (l.setIfInBounds j true).getD k true = false → (∀ e ∈ ok.after, Region.binds md e = true → e.on ≠ i) → oi.apart ops ok = true := fun k ok hk hki hun hno => by
        refine hfree k ok hk hki ?_ hno
        by_cases hjk : j = k
        · subst hjk; exact hjun
        · rw [getD_set_ne true hjk] at hun; exact hun
      refine wpOp_mono (fun a' w' h3 => ⟨h3.2.1, ih (l.setIfInBounds j true) a' w' (inv.set hj hjn) hfree' (ready_mono hr (Ne.symm hji)) h3.1 (h3.2.1 (by omega)) ?_⟩) h2
      rw [Array.setIfInBounds_comm _ _ hji]
      exact h3.2.2
/-- What is listed is closed, and nothing from n on is. -/
def headB (md : Region.Mode) (ops : Array Oper) (n : Nat) (l : Array Bool) : Bool :=
  decide (l.size = ops.size) && ((List.range ops.size).all fun j => !(l.getD j false) || match ops[j]? with | some o => o.after.all fun e => !(Region.binds md e) || l.getD e.on false | none => true) &&
  ((List.range ops.size).all fun t => decide (t < n) || !(l.getD t true))
theorem headB_inv {l : Array Bool} (h : headB md ops n l = true) : HeadInv md ops n l := by
  simp only [headB, Bool.and_eq_true, decide_eq_true_eq] at h
  obtain ⟨⟨h1, h2⟩, h3⟩ := h
  refine ⟨h1, fun j oj hj hl e he hb => ?_, fun t ht htl => ?_⟩
  · have := List.all_eq_true.1 h2 j (List.mem_range.2 (Array.getElem?_eq_some_iff.1 hj).1)
    rw [hl, hj] at this
    simp only [Bool.not_true, Bool.false_or] at this
    obtain ⟨k, hk, rfl⟩ := Array.mem_iff_getElem.1 he
    have h5 := (Array.all_eq_true.1 this) k hk
    rw [hb] at h5
    simpa using h5
  · have := List.all_eq_true.1 h3 t (List.mem_range.2 htl)
    simp only [Bool.or_eq_true, decide_eq_true_eq, Bool.not_eq_true'] at this
    rcases this with h | h
    · omega
    · exact h
def takeXB (md : Region.Mode) (ops : Array Oper) (n i : Nat) (l : Array Bool) : Bool :=
  Region.noSelect ops && decide (n < ops.size) && Region.sinkB md ops n && tailB md ops n && headB md ops n l && decide (i < n) && Region.free md ops l i && (Region.ready md ops l).contains i
theorem wpAnyX_take {i : Nat} {oi : Oper} {v : Value} {f : Nat} {l : Array Bool} {a : Act} {w : World} (hi : ops[i]? = some oi) (hB : takeXB md ops n i l = true)
    (hQ : ∀ c a w, Q (.panic c) (a.put oi.dst v) w → Q (.panic c) a w) (hy : YieldsIf P ops S oi v a) (hS : S w) (h : wpAnyX P md ops Q S n f (l.setIfInBounds i true) (a.put oi.dst v) w) : wpAnyX P md ops Q S n (f + 1) l a w := by
  simp only [takeXB, Bool.and_eq_true, decide_eq_true_eq] at hB
  obtain ⟨⟨⟨⟨⟨⟨⟨h1, h2⟩, h3⟩, h4⟩, h5⟩, h6⟩, h7⟩, h8⟩ := hB
  exact wpAnyX_first hi (Region.noSelect_spec h1) hQ h3 h4 h2 h6 f l a w (headB_inv h5) (Region.free_spec hi h7) (by simpa using h8) hy hS h
/-- One alone may come up. -/
theorem wpAnyX_op {i : Nat} {o : Oper} {f : Nat} {l : Array Bool} {a : Act} {w : World} (hi : ops[i]? = some o) (hr : Region.ready md ops l = [i]) (hg : o.guard = none)
    (h : ∀ K : Act → World → Prop, (∀ a2 w2, (i ≠ n → S w2) → ((i ≠ n → S w2) → wpAnyX P md ops Q S n f (l.setIfInBounds i true) a2 w2) → K a2 w2) → Oper.wp P o a w K Q) : wpAnyX P md ops Q S n (f + 1) l a w := by
  refine ⟨fun h0 => (by rw [hr] at h0; cases h0), fun j hj => ?_⟩
  rw [hr] at hj
  obtain rfl : j = i := by simpa using hj
  unfold wpOp
  simp only [hi]
  rw [if_pos (by simp [Region.wanted, hg])]
  exact .inl (h _ (fun a2 w2 h1 h2 => ⟨h1, h2 h1⟩))
theorem wpAnyX_done {f : Nat} {l : Array Bool} {a : Act} {w : World} (hr : Region.ready md ops l = []) (h : Q .normal a w) : wpAnyX P md ops Q S n f l a w := by
  cases f with
  | zero => exact ⟨hr, h⟩
  | succ f => exact ⟨fun _ => h, by rw [hr]; simp⟩
end
end Go.Proofs.YtkegnmclhkpbkaaGreat

/- Contract: change.do, where a kind is added. -/
namespace Go.Proofs.YtkegnmclhkpbkaaGreat
open Go Go.RowKit


theorem op_callx {P : Program} {o : Oper} {a : Act} {w : World} {K : Act → World → Prop} {Q : Exit → Act → World → Prop} (g : Nat) (vs : Array Value)
    (hr : (execOp a.eval o).run P w = .ok (.enter g vs) w) {R : Ending → World → Prop}
    (h : Calls P g vs w R) (hk : ∀ e w', R e w' → ∃ u, e = .returned u ∧ K (a.put o.dst u) w') : Oper.wp P o a w K Q := by
  unfold Oper.wp
  rw [hr, Oper.upon_enter]
  exact h.mono fun e w' hR => by
    obtain ⟨u, rfl, hK⟩ := hk e w' hR
    exact hK
theorem op_val {P : Program} {o : Oper} {a : Act} {w w' : World} {K : Act → World → Prop} {Q : Exit → Act → World → Prop} (v : Value)
    (hr : (execOp a.eval o).run P w = .ok (.value v) w') (h : K (a.put o.dst v) w') : Oper.wp P o a w K Q := by
  unfold Oper.wp
  rw [hr]
  exact h
def akS (s : Scm) (d : Knd) : Scm := ⟨s.kinds ++ [d], s.bonds⟩
end Go.Proofs.YtkegnmclhkpbkaaGreat

/- Contract: change.do, where a bond is added. -/
namespace Go.Proofs.YtkegnmclhkpbkaaGreat
open Go Go.RowKit


def abS (s : Scm) (d : Bnd) : Scm := ⟨s.kinds, s.bonds ++ [d]⟩
end Go.Proofs.YtkegnmclhkpbkaaGreat

/- Plain: what change.do makes of a schema. No condition. -/
namespace Go.Proofs.YtkegnmclhkpbkaaGreat
open Go Go.RowKit

def cgE (s : Scm) (c : Chg) : Int := if c.what = 1 ∨ c.what = 5 then 0 else if c.what = 2 then dropE s c.name else if c.what = 3 ∨ c.what = 4 ∨ c.what = 7 then fieldsE s c else if c.what = 6 ∨ c.what = 8 then bondsE s c else 1
def chgS (s : Scm) (c : Chg) : Scm := if c.what = 1 then akS s c.kind else if c.what = 5 then abS s c.bond else if c.what = 2 then dropS s c.name else if c.what = 3 ∨ c.what = 4 ∨ c.what = 7 then fieldsS s c else bondsS s c
theorem RetSW.first {B bs : Nat} {s : Scm} {err : Int} {w w0 w' : World} {e : Ending} (hb : Below w.heap.size w w0) (hB : B ≤ w.heap.size) (h : RetSW B bs s err w0 e w') : RetSW B bs s err w e w' := by
  obtain ⟨h1, h2, h3, h4, h5⟩ := h
  exact ⟨h1, h2, (hb.mono hB).trans h3, fun k c fr hne hk => h4 k c fr hne (Same.below hb _ _ _ hk), by have := hb.size; omega⟩
theorem SW.below {w w' : World} {B bs : Nat} {vk vb : Value} {s : Scm} {xs : List Value} (h : SW w B bs vk vb s xs) (hb : Below w.heap.size w w') : SW w' B bs vk vb s xs :=
  ⟨(hb.block _ (Array.getElem?_eq_some_iff.1 h.q).1).trans h.q, h.o.below hb, h.l⟩
end Go.Proofs.YtkegnmclhkpbkaaGreat

/- Contract: change.do, where a kind is dropped. -/
namespace Go.Proofs.YtkegnmclhkpbkaaGreat
open Go Go.RowKit


end Go.Proofs.YtkegnmclhkpbkaaGreat

/- Contract: change.do, where fields are others. -/
namespace Go.Proofs.YtkegnmclhkpbkaaGreat
open Go Go.RowKit


end Go.Proofs.YtkegnmclhkpbkaaGreat

/- Contract: change.do, where bonds are others. -/
namespace Go.Proofs.YtkegnmclhkpbkaaGreat
open Go Go.RowKit


end Go.Proofs.YtkegnmclhkpbkaaGreat

/- Contract: change.do, where nothing is done. -/
namespace Go.Proofs.YtkegnmclhkpbkaaGreat
open Go Go.RowKit


end Go.Proofs.YtkegnmclhkpbkaaGreat

/- Contract: change.do. -/
namespace Go.Proofs.YtkegnmclhkpbkaaGreat
open Go Go.RowKit

end Go.Proofs.YtkegnmclhkpbkaaGreat

/- Plain: a schema that was changed, and changed back, is as it was. No condition. -/
namespace Go.Proofs.YtkegnmclhkpbkaaGreat

theorem low_eq {D : Type} {c : D → Int} {l : List D} {t : Nat} (hA : ∀ i d, i < t → l[i]? = some d → c d < 0) (ht : t ≤ l.length) (hB : ∀ d, l[t]? = some d → 0 ≤ c d) : lowI c l = t := by
  have hle := lowI_le c l
  rcases Nat.lt_trichotomy (lowI c l) t with h | h | h
  · exfalso
    have hl : lowI c l < l.length := by omega
    have h1 := hA _ _ h (List.getElem?_eq_getElem hl)
    have := List.findIdx_getElem (xs := l) (p := fun d => decide (0 ≤ c d)) (w := hl)
    simp only [decide_eq_true_eq] at this
    have h2 : 0 ≤ c (l[lowI c l]'hl) := this
    omega
  · exact h
  · exfalso
    have hl : t < l.length := by omega
    have h1 := low_lt h (List.getElem?_eq_getElem hl)
    have h2 := hB _ (List.getElem?_eq_getElem hl)
    omega
theorem fldE_zero {p : Option Fld} {f : Fld} (h : fldE p f = 0) : nameE f.name = 0 ∧ ∀ q, p = some q → cmpS q.name f.name < 0 := by
  unfold fldE at h
  split at h
  · rename_i h1
    refine ⟨h1, fun q hq => ?_⟩
    subst hq
    split at h
    · split at h
      · omega
      · simp only at h
        split at h
        · rename_i hl
          rw [ltS_cmp] at hl
          simpa using hl
        · omega
    · omega
  · rename_i h1; exact absurd h h1
theorem fldsE_zero : ∀ {l : List Fld} {p : Option Fld}, fldsE p l = 0 → (∀ f ∈ l, nameE f.name = 0) ∧ Rise l ∧ (∀ q, p = some q → ∀ f ∈ l, cmpS q.name f.name < 0)
  | [], p, _ => ⟨by simp, List.Pairwise.nil, by simp⟩
  | f :: l, p, h => by
    rw [fldsE] at h
    split at h
    · rename_i h0
      obtain ⟨a1, a2⟩ := fldE_zero h0
      obtain ⟨b1, b2, b3⟩ := fldsE_zero h
      refine ⟨fun x hx => ?_, List.Pairwise.cons (fun x hx => b3 f rfl x hx) b2, fun q hq x hx => ?_⟩
      · rcases List.mem_cons.1 hx with rfl | hx
        · exact a1
        · exact b1 x hx
      · rcases List.mem_cons.1 hx with rfl | hx
        · exact a2 q hq
        · exact cmpS_trans (a2 q hq) (b3 f rfl x hx)
    · rename_i h0; exact absurd h h0
theorem Right.flds {l : List Knd} (h : Right l) {d : Knd} (hd : d ∈ l) : (∀ f ∈ d.fields, nameE f.name = 0) ∧ Rise d.fields ∧ d.fields.length ≤ 8 := by
  obtain ⟨i, hi⟩ := List.mem_iff_getElem?.1 hd
  have ho := h.one i d hi
  obtain ⟨h1, h2, _⟩ := fldsE_zero ho.fls
  exact ⟨h1, h2, ho.fll⟩
theorem bndsE_zero {ks : List Knd} : ∀ {r p : List Bnd}, (bndsE ks p r).2 = 0 → ∀ (i : Nat) b, r[i]? = some b → bndE ks (p ++ r.take i) b = 0
  | [], _, _, i, b, h => by simp at h
  | x :: r, p, h, i, b, hb => by
    rw [bndsE] at h
    split at h
    · rename_i h0
      cases i with
      | zero => simp at hb; subst hb; simpa using h0
      | succ i =>
        have := bndsE_zero h i b (by simpa using hb)
        simpa using this
    · rename_i h0; exact absurd h h0
theorem bFind_neg {l : List Bnd} {s : ByteArray} (h : bFind l s < 0) : ∀ k ∈ l, k.name ≠ s := by
  intro k hk e
  have : l.any (fun k => decide (k.name = s)) = true := List.any_eq_true.2 ⟨k, hk, by simpa using e⟩
  rw [← idxI_any] at this
  have h2 : idxI (fun k : Bnd => decide (k.name = s)) l < 0 := h
  simp at this
  omega
theorem bFind_pos {l : List Bnd} {s : ByteArray} (h : 0 ≤ bFind l s) : ∃ (i : Nat) (k : Bnd), bFind l s = i ∧ l[i]? = some k ∧ k.name = s ∧ ∀ j x, j < i → l[j]? = some x → x.name ≠ s := by
  obtain ⟨i, k, h1, h2, h3, h4⟩ := idxI_nonneg h
  exact ⟨i, k, h1, h2, by simpa using h3, fun j x hj hx => by simpa using h4 j x hj hx⟩
structure BndOk (ks : List Knd) (p : List Bnd) (b : Bnd) : Prop where
  nm : nameE b.name = 0
  new : bFind p b.name < 0
  src : 0 ≤ kFind ks b.src
  dst : 0 ≤ kFind ks b.dst
  rng : ¬ rngB b
theorem bndE_zero {ks : List Knd} {p : List Bnd} {b : Bnd} (h : bndE ks p b = 0) : BndOk ks p b := by
  unfold bndE at h
  by_cases h1 : nameE b.name = 0
  · rw [if_pos h1] at h
    by_cases h2 : 0 ≤ bFind p b.name
    · rw [if_pos h2] at h; omega
    rw [if_neg h2] at h
    by_cases h3 : kFind ks b.src < 0 ∨ kFind ks b.dst < 0
    · rw [if_pos h3] at h; omega
    rw [if_neg h3] at h
    by_cases h4 : rngB b
    · rw [if_pos h4] at h; omega
    exact ⟨h1, by omega, by omega, by omega, h4⟩
  · rw [if_neg h1] at h; exact absurd h h1
/-- A schema that is right. -/
structure ScmOk (s : Scm) : Prop where
  r : Right s.kinds
  bl : s.bonds.length ≤ 12
  b : ∀ (i : Nat) b, s.bonds[i]? = some b → BndOk s.kinds (s.bonds.take i) b
theorem scmE_zero {s : Scm} (h : (scmE s).2 = 0) : ScmOk s := by
  unfold scmE at h
  split at h
  · rename_i h0
    split at h
    · simp at h
    · exact ⟨checkE_zero h0, by omega, fun i b hb => bndE_zero (by simpa using bndsE_zero h i b hb)⟩
  · rename_i h0; exact absurd h h0
theorem ScmOk.mem {s : Scm} (h : ScmOk s) {b : Bnd} (hb : b ∈ s.bonds) : 0 ≤ kFind s.kinds b.src ∧ 0 ≤ kFind s.kinds b.dst := by
  obtain ⟨i, hi⟩ := List.mem_iff_getElem?.1 hb
  exact ⟨(h.b i b hi).src, (h.b i b hi).dst⟩

/-! ### A change of a schema -/
def cdoE (s : Scm) (c : Chg) : Int := if (scmE s).2 = 0 then (if cgE s c = 0 then (scmE (chgS s c)).2 else cgE s c) else (scmE s).2
def cdoS (s : Scm) (c : Chg) : Scm := if cdoE s c = 0 then chgS s c else ⟨[], []⟩
theorem cdoE_zero {s : Scm} {c : Chg} (h : cdoE s c = 0) : (scmE s).2 = 0 ∧ cgE s c = 0 ∧ (scmE (chgS s c)).2 = 0 := by
  unfold cdoE at h
  split at h
  · split at h
    · exact ⟨by assumption, by assumption, h⟩
    · rename_i h1; exact absurd h h1
  · rename_i h1; exact absurd h h1
theorem doE_mk {s : Scm} {c : Chg} (h1 : (scmE s).2 = 0) (h2 : cgE s c = 0) (h3 : (scmE (chgS s c)).2 = 0) : cdoE s c = 0 := by
  unfold cdoE; rw [if_pos h1, if_pos h2]; exact h3
/-- Changed back it is as it was. -/
def Back (s : Scm) (c c' : Chg) : Prop := cdoE (chgS s c) c' = 0 ∧ cdoS (chgS s c) c' = s
theorem back_mk {s : Scm} {c c' : Chg} (h : cdoE s c = 0) (h1 : cgE (chgS s c) c' = 0) (h2 : chgS (chgS s c) c' = s) : Back s c c' := by
  obtain ⟨a1, a2, a3⟩ := cdoE_zero h
  have h3 : cdoE (chgS s c) c' = 0 := doE_mk a3 h1 (by rw [h2]; exact a1)
  exact ⟨h3, by unfold cdoS; rw [if_pos h3, h2]⟩
def kz : Knd := ⟨.empty, [], []⟩
def bz : Bnd := ⟨.empty, .empty, .empty, 0, 0⟩
def fz : Fld := ⟨.empty, 0, false, false⟩
def vz : Val := ⟨0, 0, .empty⟩
theorem take_drop_one {D : Type} (l : List D) (a : D) : (l ++ [a]).take l.length ++ (l ++ [a]).drop (l.length + 1) = l := by
  rw [List.take_left, List.drop_of_length_le (by simp), List.append_nil]
theorem back_kind {s : Scm} {c : Chg} (h : cdoE s c = 0) (hw : c.what = 1) : Back s c ⟨2, c.kind.name, kz, bz, fz, vz, .empty⟩ := by
  obtain ⟨a1, a2, a3⟩ := cdoE_zero h
  have hS : chgS s c = ⟨s.kinds ++ [c.kind], s.bonds⟩ := by unfold chgS; rw [if_pos hw]; rfl
  rw [hS] at a3
  have o1 := scmE_zero a1
  have hwf : Wf (s.kinds ++ [c.kind]) := (scmE_zero a3).r.wf
  have hne : ∀ (j : Nat) x, j < s.kinds.length → (s.kinds ++ [c.kind])[j]? = some x → x.name ≠ c.kind.name := fun j x hj hx => (hwf s.kinds.length c.kind (by simp)).1 j x hj hx
  have hk : kFind (s.kinds ++ [c.kind]) c.kind.name = (s.kinds.length : Nat) := idxI_hit (d := c.kind) (fun j x hj hx => by simpa using hne j x hj hx) (by simp) (by simp)
  have hsrc : ∀ nm, 0 ≤ kFind s.kinds nm → nm ≠ c.kind.name := fun nm hn e => by
    obtain ⟨i, k, _, h2, h3, _⟩ := kFind_pos hn
    have hi := (List.getElem?_eq_some_iff.1 h2).1
    exact hne i k hi (by rw [List.getElem?_append_left hi]; exact h2) (h3.trans e)
  have hu : usedB ⟨s.kinds ++ [c.kind], s.bonds⟩ c.kind.name = false := by
    unfold usedB
    rw [Bool.or_eq_false_iff]
    constructor
    · rw [List.any_eq_false]
      intro k hk hc
      obtain ⟨y, hy, he⟩ := List.any_eq_true.1 hc
      have he' : c.kind.name = y := by simpa using he
      obtain ⟨i, hi⟩ := List.mem_iff_getElem?.1 hk
      obtain ⟨j, x, hj, hx, hn⟩ := (hwf i k hi).2 y hy
      have hil := (List.getElem?_eq_some_iff.1 hi).1
      simp at hil
      exact hne j x (by omega) hx (hn.trans he'.symm)
    · rw [List.any_eq_false]
      intro b hb
      obtain ⟨q1, q2⟩ := o1.mem hb
      simp [hsrc _ q1, hsrc _ q2]
  refine back_mk h ?_ ?_
  · rw [hS]
    show (if ((2 : Int) = 1 ∨ (2 : Int) = 5) then (0 : Int) else if (2 : Int) = 2 then dropE ⟨s.kinds ++ [c.kind], s.bonds⟩ c.kind.name else _) = 0
    rw [if_neg (by omega), if_pos rfl]
    unfold dropE
    rw [hu, show (⟨s.kinds ++ [c.kind], s.bonds⟩ : Scm).kinds = s.kinds ++ [c.kind] from rfl, hk, if_neg (by omega)]
    rfl
  · rw [hS]
    show (if (2 : Int) = 1 then _ else if (2 : Int) = 5 then _ else if (2 : Int) = 2 then dropS ⟨s.kinds ++ [c.kind], s.bonds⟩ c.kind.name else _) = s
    rw [if_neg (by omega), if_neg (by omega), if_pos rfl]
    unfold dropS
    rw [show (⟨s.kinds ++ [c.kind], s.bonds⟩ : Scm).kinds = s.kinds ++ [c.kind] from rfl, hk, Int.toNat_natCast, take_drop_one]
theorem back_bond {s : Scm} {c : Chg} (h : cdoE s c = 0) (hw : c.what = 5) : Back s c ⟨6, c.bond.name, kz, bz, fz, vz, .empty⟩ := by
  obtain ⟨a1, a2, a3⟩ := cdoE_zero h
  have hS : chgS s c = ⟨s.kinds, s.bonds ++ [c.bond]⟩ := by unfold chgS; rw [if_neg (by omega), if_pos hw]; rfl
  rw [hS] at a3
  have hb := (scmE_zero a3).b s.bonds.length c.bond (by simp)
  have hk : bFind (s.bonds ++ [c.bond]) c.bond.name = (s.bonds.length : Nat) := idxI_hit (d := c.bond) (fun j x hj hx => by
    rw [List.getElem?_append_left hj] at hx
    have hn := hb.new
    rw [show (⟨s.kinds, s.bonds ++ [c.bond]⟩ : Scm).bonds = s.bonds ++ [c.bond] from rfl, List.take_left] at hn
    simpa using bFind_neg hn x (List.mem_of_getElem? hx)) (by simp) (by simp)
  refine back_mk h ?_ ?_
  · rw [hS]
    show (if ((6 : Int) = 1 ∨ (6 : Int) = 5) then (0 : Int) else if (6 : Int) = 2 then _ else if (6 : Int) = 3 ∨ (6 : Int) = 4 ∨ (6 : Int) = 7 then _ else if (6 : Int) = 6 ∨ (6 : Int) = 8 then bondsE ⟨s.kinds, s.bonds ++ [c.bond]⟩ ⟨6, c.bond.name, kz, bz, fz, vz, .empty⟩ else _) = 0
    rw [if_neg (by omega), if_neg (by omega), if_neg (by omega), if_pos (by omega)]
    show (if bFind (s.bonds ++ [c.bond]) c.bond.name < 0 then (5 : Int) else 0) = 0
    rw [hk, if_neg (by omega)]
  · rw [hS]
    show (if (6 : Int) = 1 then _ else if (6 : Int) = 5 then _ else if (6 : Int) = 2 then _ else if (6 : Int) = 3 ∨ (6 : Int) = 4 ∨ (6 : Int) = 7 then _ else bondsS ⟨s.kinds, s.bonds ++ [c.bond]⟩ ⟨6, c.bond.name, kz, bz, fz, vz, .empty⟩) = s
    rw [if_neg (by omega), if_neg (by omega), if_neg (by omega), if_neg (by omega)]
    unfold bondsS
    simp only [hk, Int.toNat_natCast]
    rw [show (s.bonds ++ [c.bond])[s.bonds.length]? = some c.bond by simp]
    simp only [if_true, take_drop_one]
theorem cpos_add (fs : List Fld) (f : Fld) : cpos (addF fs f) f.name = cpos fs f.name ∧ chas (addF fs f) f.name = true ∧ delF (addF fs f) f.name = fs ∧ (addF fs f)[cpos fs f.name]? = some f := by
  have hle : cpos fs f.name ≤ fs.length := lowI_le _ _
  have hlt : (fs.take (cpos fs f.name)).length = cpos fs f.name := by rw [List.length_take]; omega
  have hat : (addF fs f)[cpos fs f.name]? = some f := by
    unfold addF
    rw [List.getElem?_append_right (by omega), hlt, Nat.sub_self]; rfl
  have h1 : cpos (addF fs f) f.name = cpos fs f.name := by
    refine low_eq (c := fldC f.name) (fun i d hi hd => ?_) ?_ (fun d hd => ?_)
    · unfold addF at hd
      rw [List.getElem?_append_left (by omega), List.getElem?_take, if_pos hi] at hd
      exact low_lt hi hd
    · unfold addF; simp; omega
    · rw [hat] at hd; injection hd with hd; subst hd
      unfold fldC; rw [cmpS_zero.2 rfl]; omega
  refine ⟨h1, ?_, ?_, hat⟩
  · unfold chas eqAt
    rw [h1, hat]
    show (fldC f.name f == 0) = true
    unfold fldC; rw [cmpS_zero.2 rfl]; rfl
  · unfold delF
    rw [h1]
    unfold addF
    rw [List.take_append_of_le_length (by omega), List.take_take, Nat.min_self, List.drop_append, hlt, show cpos fs f.name + 1 - cpos fs f.name = 1 by omega, List.drop_of_length_le (by omega)]
    simp
theorem kFind_set {l : List Knd} {i : Nat} {s : ByteArray} {k : Knd} (h : kFind l s = i) (hk : l[i]? = some k) (fs : List Fld) : kFind (l.set i ⟨k.name, k.ofs, fs⟩) s = i := by
  obtain ⟨i', k', h1, h2, h3, h4⟩ := kFind_pos (by omega : 0 ≤ kFind l s)
  obtain rfl : i' = i := by omega
  obtain rfl : k = k' := by rw [hk] at h2; exact Option.some.inj h2
  exact idxI_hit (fun j x hj hx => by
    rw [List.getElem?_set, if_neg (by omega)] at hx
    simpa using h4 j x hj hx) (by rw [List.getElem?_set_self (List.getElem?_eq_some_iff.1 hk).1]) (by simp [h3])
theorem setF_kind {s : Scm} {i : Nat} {d : Knd} (fs : List Fld) (hd : s.kinds[i]? = some d) : (setF s i d fs).kinds[i]? = some ⟨d.name, d.ofs, fs⟩ := by
  show (s.kinds.set i ⟨d.name, d.ofs, fs⟩)[i]? = _
  rw [List.getElem?_set_self (List.getElem?_eq_some_iff.1 hd).1]
theorem setF_back {s : Scm} {i : Nat} {d : Knd} (fs : List Fld) (hd : s.kinds[i]? = some d) : setF (setF s i d fs) i ⟨d.name, d.ofs, fs⟩ d.fields = s := by
  unfold setF
  simp only [List.set_set]
  rw [set_same hd]
theorem fieldsE_at {s : Scm} {c : Chg} {i : Nat} {d : Knd} (h : kFind s.kinds c.name = i) (hd : s.kinds[i]? = some d) : fieldsE s c = fldE2 d c ∧ fieldsS s c = setF s i d (fldF2 d c) := by
  unfold fieldsE fieldsS
  rw [h, Int.toNat_natCast, hd]
  exact ⟨if_neg (show ¬ ((i : Int) < 0) by omega), rfl⟩
theorem fieldsE_get {s : Scm} {c : Chg} (h : fieldsE s c = 0) : ∃ (i : Nat) (d : Knd), kFind s.kinds c.name = i ∧ s.kinds[i]? = some d ∧ fldE2 d c = 0 := by
  rcases kFind_cases s.kinds c.name with hn | ⟨i, d, h1, h2⟩
  · exfalso
    unfold fieldsE at h
    split at h
    · rw [if_pos hn] at h; omega
    · omega
  · exact ⟨i, d, h1, h2, by rw [← (fieldsE_at h1 h2).1]; exact h⟩
theorem chgE_flds {s : Scm} {c : Chg} (hw : c.what = 3 ∨ c.what = 4 ∨ c.what = 7) : cgE s c = fieldsE s c ∧ chgS s c = fieldsS s c := by
  constructor
  · unfold cgE
    rw [if_neg (show ¬ (c.what = 1 ∨ c.what = 5) by omega), if_neg (show ¬ c.what = 2 by omega), if_pos hw]
  · unfold chgS
    rw [if_neg (show ¬ c.what = 1 by omega), if_neg (show ¬ c.what = 5 by omega), if_neg (show ¬ c.what = 2 by omega), if_pos hw]
theorem back_field {s : Scm} {c : Chg} (h : cdoE s c = 0) (hw : c.what = 3) : Back s c ⟨4, c.name, kz, bz, c.fld, vz, .empty⟩ := by
  obtain ⟨a1, a2, a3⟩ := cdoE_zero h
  obtain ⟨e1, e2⟩ := chgE_flds (s := s) (c := c) (.inl hw)
  rw [e1] at a2
  obtain ⟨i, d, h1, h2, h3⟩ := fieldsE_get a2
  have hS : chgS s c = setF s i d (addF d.fields c.fld) := by
    rw [e2, (fieldsE_at h1 h2).2]; unfold fldF2; rw [if_pos hw]
  obtain ⟨q1, q2, q3, _⟩ := cpos_add d.fields c.fld
  have g1 : kFind (setF s i d (addF d.fields c.fld)).kinds c.name = i := kFind_set h1 h2 _
  have g2 := setF_kind (addF d.fields c.fld) h2
  obtain ⟨f1, f2⟩ := chgE_flds (s := chgS s c) (c := ⟨4, c.name, kz, bz, c.fld, vz, .empty⟩) (.inr (.inl rfl))
  obtain ⟨k1, k2⟩ := fieldsE_at (s := setF s i d (addF d.fields c.fld)) (c := ⟨4, c.name, kz, bz, c.fld, vz, .empty⟩) g1 g2
  refine back_mk h ?_ ?_
  · rw [f1, hS, k1]
    unfold fldE2
    simp only [q2]
    rfl
  · rw [f2, hS, k2]
    have : fldF2 ⟨d.name, d.ofs, addF d.fields c.fld⟩ ⟨4, c.name, kz, bz, c.fld, vz, .empty⟩ = d.fields := by
      unfold fldF2
      rw [if_neg (by simp), if_neg (by simp)]
      exact q3
    rw [this, setF_back _ h2]
theorem back_ren {s : Scm} {c : Chg} (h : cdoE s c = 0) (hw : c.what = 7) : Back s c ⟨7, c.name, kz, bz, ⟨c.tow, 0, false, false⟩, vz, c.fld.name⟩ := by
  obtain ⟨a1, a2, a3⟩ := cdoE_zero h
  obtain ⟨e1, e2⟩ := chgE_flds (s := s) (c := c) (.inr (.inr hw))
  rw [e1] at a2
  obtain ⟨i, d, h1, h2, h3⟩ := fieldsE_get a2
  have hre : renE d.fields c.fld.name c.tow = 0 := by
    unfold fldE2 at h3; rw [if_neg (by omega), if_pos hw] at h3; exact h3
  have hS : chgS s c = setF s i d (renF d.fields c.fld.name c.tow) := by
    rw [e2, (fieldsE_at h1 h2).2]; unfold fldF2; rw [if_neg (by omega), if_pos hw]
  obtain ⟨n1, n2, n3⟩ := (scmE_zero a1).r.flds (List.mem_of_getElem? h2)
  generalize hfs : d.fields = fs at *
  generalize hnm : c.fld.name = nm at *
  generalize hto : c.tow = tow at *
  -- what the first renaming says
  have hh : chas fs nm = true ∧ nameE tow = 0 ∧ chas fs tow = false := by
    unfold renE at hre
    cases hc1 : chas fs nm with
    | false => rw [hc1] at hre; simp at hre
    | true =>
      rw [hc1, if_pos rfl] at hre
      by_cases hn : nameE tow = 0
      · rw [if_pos hn] at hre
        cases hc2 : chas fs tow with
        | true => rw [hc2] at hre; simp at hre
        | false => exact ⟨rfl, hn, rfl⟩
      · rw [if_neg hn] at hre; exact absurd hre hn
  obtain ⟨hn1, hn2, hn3⟩ := hh
  obtain ⟨f, hf⟩ := chas_some hn1
  have hfn : f.name = nm := by
    have := hn1
    unfold chas eqAt at this
    rw [hf] at this
    have hz : fldC nm f = 0 := by simpa using this
    exact cmpS_zero.1 hz
  have hpl := (List.getElem?_eq_some_iff.1 hf).1
  have hren : renF fs nm tow = addF (delF fs nm) ⟨tow, f.ty, f.must, f.key⟩ := by unfold renF; rw [hf]
  obtain ⟨q1, q2, q3, q4⟩ := cpos_add (delF fs nm) ⟨tow, f.ty, f.must, f.key⟩
  have hne : nm ≠ tow := fun e => by rw [e, hn3] at hn1; cases hn1
  -- the old name is free
  have hfree : chas (renF fs nm tow) nm = false := by
    cases hc : chas (renF fs nm tow) nm with
    | false => rfl
    | true =>
      exfalso
      obtain ⟨g, hg⟩ := chas_some hc
      have hgn : g.name = nm := by
        unfold chas eqAt at hc
        rw [hg] at hc
        have hz : fldC nm g = 0 := by simpa using hc
        exact cmpS_zero.1 hz
      have hm := List.mem_of_getElem? hg
      rw [hren] at hm
      unfold addF at hm
      have hm2 : g ∈ delF fs nm ∨ g = ⟨tow, f.ty, f.must, f.key⟩ := by
        rcases List.mem_append.1 hm with h | h
        · exact .inl (List.mem_of_mem_take h)
        · rcases List.mem_cons.1 h with h | h
          · exact .inr h
          · exact .inl (List.mem_of_mem_drop h)
      rcases hm2 with hm2 | hm2
      · unfold delF at hm2
        have hpw := n2
        have hsplit : fs = fs.take (cpos fs nm) ++ f :: fs.drop (cpos fs nm + 1) := by
          obtain ⟨hl, hx⟩ := List.getElem?_eq_some_iff.1 hf
          rw [← hx, List.getElem_cons_drop, List.take_append_drop]
        unfold Rise at hpw
        rw [hsplit, List.pairwise_append] at hpw
        obtain ⟨p1, p2, p3⟩ := hpw
        rw [List.pairwise_cons] at p2
        rcases List.mem_append.1 hm2 with h | h
        · have := p3 g h f (by simp)
          rw [hgn, hfn, cmpS_zero.2 rfl] at this; omega
        · have := p2.1 g h
          rw [hgn, hfn, cmpS_zero.2 rfl] at this; omega
      · rw [hm2] at hgn; exact hne hgn.symm
  -- where the old name goes
  have hX : cpos (delF fs nm) nm = cpos fs nm := by
    have htl : (fs.take (cpos fs nm)).length = cpos fs nm := by rw [List.length_take]; omega
    refine low_eq (c := fldC nm) (fun j x hj hx => ?_) ?_ (fun x hx => ?_)
    · unfold delF at hx
      rw [List.getElem?_append_left (by omega), List.getElem?_take, if_pos hj] at hx
      exact low_lt hj hx
    · unfold delF; simp; omega
    · unfold delF at hx
      rw [List.getElem?_append_right (by omega), htl, List.getElem?_drop] at hx
      exact low_ge (rise_chain n2) (fldC_mono nm) (i := cpos fs nm + 1 + (cpos fs nm - cpos fs nm)) (by show cpos fs nm ≤ _; omega) hx
  have hback : renF (renF fs nm tow) tow nm = fs := by
    have hat : (renF fs nm tow)[cpos (renF fs nm tow) tow]? = some ⟨tow, f.ty, f.must, f.key⟩ := by
      rw [hren]; show (addF _ _)[cpos (addF (delF fs nm) ⟨tow, f.ty, f.must, f.key⟩) (⟨tow, f.ty, f.must, f.key⟩ : Fld).name]? = _
      rw [q1]; exact q4
    have hdel : delF (renF fs nm tow) tow = delF fs nm := by rw [hren]; exact q3
    have hst : renF (renF fs nm tow) tow nm = addF (delF fs nm) ⟨nm, f.ty, f.must, f.key⟩ := by
      show (match (renF fs nm tow)[cpos (renF fs nm tow) tow]? with | some f => addF (delF (renF fs nm tow) tow) ⟨nm, f.ty, f.must, f.key⟩ | none => renF fs nm tow) = _
      rw [hat, hdel]
    rw [hst]
    have hfe : (⟨nm, f.ty, f.must, f.key⟩ : Fld) = f := by rw [← hfn]
    rw [hfe]
    unfold addF
    rw [hfn, hX]
    have htl : (fs.take (cpos fs nm)).length = cpos fs nm := by rw [List.length_take]; omega
    unfold delF
    rw [List.take_append_of_le_length (by omega), List.take_take, Nat.min_self, List.drop_append, htl, Nat.sub_self, List.drop_of_length_le (by omega), List.drop_zero, List.nil_append]
    obtain ⟨hl, hx⟩ := List.getElem?_eq_some_iff.1 hf
    conv => lhs; rw [← hx]
    rw [List.getElem_cons_drop, List.take_append_drop]
  have g1 : kFind (setF s i d (renF fs nm tow)).kinds c.name = i := kFind_set h1 h2 _
  have g2 := setF_kind (renF fs nm tow) h2
  obtain ⟨f1, f2⟩ := chgE_flds (s := chgS s c) (c := ⟨7, c.name, kz, bz, ⟨tow, 0, false, false⟩, vz, nm⟩) (.inr (.inr rfl))
  obtain ⟨k1, k2⟩ := fieldsE_at (s := setF s i d (renF fs nm tow)) (c := ⟨7, c.name, kz, bz, ⟨tow, 0, false, false⟩, vz, nm⟩) g1 g2
  refine back_mk h ?_ ?_
  · rw [f1, hS, k1]
    unfold fldE2
    rw [if_neg (by simp), if_pos rfl]
    show renE (renF fs nm tow) tow nm = 0
    unfold renE
    have hx2 : chas (renF fs nm tow) tow = true := by rw [hren]; exact q2
    have hx3 : nameE nm = 0 := by rw [← hfn]; exact n1 f (List.mem_of_getElem? hf)
    rw [hx2, if_pos rfl, if_pos hx3, hfree]; rfl
  · rw [f2, hS, k2]
    have : fldF2 ⟨d.name, d.ofs, renF fs nm tow⟩ ⟨7, c.name, kz, bz, ⟨tow, 0, false, false⟩, vz, nm⟩ = d.fields := by
      unfold fldF2
      rw [if_neg (by simp), if_pos rfl, hfs]
      exact hback
    rw [this, setF_back _ h2]
end Go.Proofs.YtkegnmclhkpbkaaGreat
