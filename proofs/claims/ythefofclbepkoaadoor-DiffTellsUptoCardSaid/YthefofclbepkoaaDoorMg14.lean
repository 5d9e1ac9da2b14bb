/- Parts: DelD, DelT, DelO, DelK, ChC, ChD, ChE, ChF, ChG, HeldX, ChH, ChI, ChJ0, ChJ2, ChJ3, ChJ6, ChJ8, ChJ. -/
import Derived.Test.YthefofclbepkoaaDoorMg11
import Derived.Test.YthefofclbepkoaaDoorMg10
import Derived.Test.YthefofclbepkoaaDoorMg12
import Derived.Test.YthefofclbepkoaaDoorMg13
import Derived.Test.YthefofclbepkoaaDoorMg08
import Derived.Deep.RegionHeld3
import Derived.Test.YthefofclbepkoaaDoorMg04
import Derived.OrdersHeld
/- Plain law of the model: the shift down of slices.Delete, by one element. No condition. -/
namespace Go.Proofs.YthefofclbepkoaaDoor
open Go Go.RowKit

theorem Own.shift {P : Program} {w : World} {B : Nat} {e : TypeId} {g o n c i sz : Nat} {xs : List Value} (t : TypeId) (i0 : TypeInfo) (ht : P.underlying t = some (.slice e)) (hi : P.info? e = some i0) (hs : i0.size = sz)
    (h : Own w B e sz (.slice (some ⟨g, o, none⟩) n c) n xs) (hx1 : ∀ u ∈ xs, u.oneCell' = true) (hin : i < n) (a : Addr) (ha : ∀ j u, (xs.drop ((i + 1) * sz))[j]? = some u → w.cell? (a.add j) = some u) :
    ∃ w', (∀ ty c', (Builtin.append_ #[t, t] ty #[.slice (some ⟨g, o, none⟩) i c, .slice (some a) (n - (i + 1)) c']).run P w = .ok (.slice (some ⟨g, o, none⟩) (n - 1) c) w') ∧
      Own w' B e sz (.slice (some ⟨g, o, none⟩) n c) n (xs.take (i * sz) ++ xs.drop ((i + 1) * sz) ++ xs.drop ((n - 1) * sz)) ∧ w.grownBy w' (some g) := by
  rcases h.2 with ⟨h0, _⟩ | ⟨g', o', cap, cur, hv, hb, hg, h2, h3, h4, h5⟩
  · cases h0
  · injection hv with e1 _ e3
    injection e1 with e1
    injection e1 with e1 e2
    subst e1; subst e2; subst e3
    have hlen := h.1
    have hnc : n * sz ≤ c * sz := Nat.mul_le_mul_right _ h2
    have hin2 : i * sz + sz ≤ n * sz := by have := Nat.mul_le_mul_right sz (show i + 1 ≤ n by omega); rw [Nat.add_mul, Nat.one_mul] at this; exact this
    have e5 : (i + 1) * sz = i * sz + sz := by rw [Nat.add_mul, Nat.one_mul]
    have e6 : (n - 1) * sz = n * sz - sz := by rw [Nat.sub_mul, Nat.one_mul]
    have e7 : (n - (i + 1)) * sz = n * sz - (i * sz + sz) := by rw [Nat.sub_mul, e5]
    have hdl : (xs.drop ((i + 1) * sz)).length = (n - (i + 1)) * sz := by rw [List.length_drop, hlen, Nat.sub_mul]
    have e8 : i + (n - (i + 1)) = n - 1 := by omega
    refine ⟨w.setRow g (cur.toList.take (o + i * sz) ++ xs.drop ((i + 1) * sz) ++ cur.toList.drop (o + i * sz + (xs.drop ((i + 1) * sz)).length)).toArray, fun ty c' => ?_, ⟨?_, .inr ⟨g, o, c, _, rfl, hb, setRow_heap w g cur _ e _ hg, h2, h3, ?_, ?_⟩⟩, grownBy_setRow⟩
    · have := run_append_at (P := P) w t ty e i0 ht hi g o i c cur hg a (n - (i + 1)) c' (xs.drop ((i + 1) * sz)) (by rw [hs, hdl]) ha (fun u hu => hx1 u (List.mem_of_mem_drop hu)) (by omega) (by rw [hs, hdl, e7]; omega)
      rw [hs, e8] at this
      exact this
    · simp only [List.length_append, List.length_take, List.length_drop, hlen, e5, e6]
      omega
    · simp only [List.size_toArray, List.length_append, List.length_take, List.length_drop, Array.length_toList, hlen, e5]
      omega
    · have hcl : cur.toList = cur.toList.take o ++ xs ++ cur.toList.drop (o + n * sz) := by
        conv => lhs; rw [← List.take_append_drop o cur.toList, ← List.take_append_drop (n * sz) (cur.toList.drop o), h5]
        rw [List.drop_drop, List.append_assoc]
      have hol : (cur.toList.take o).length = o := by simp; omega
      generalize cur.toList.take o = A at *
      generalize cur.toList.drop (o + n * sz) = C at *
      rw [hcl, hdl, e7, e5, e6]
      subst hol
      have hxs : xs = xs.take (i * sz) ++ xs.drop (i * sz) := (List.take_append_drop _ _).symm
      have t1 : (A ++ xs ++ C).take (A.length + i * sz) = A ++ xs.take (i * sz) := by
        rw [List.append_assoc, List.take_append, List.take_of_length_le (by omega), show A.length + i * sz - A.length = i * sz by omega, List.take_append_of_le_length (by omega)]
      have t2 : (A ++ xs ++ C).drop (A.length + i * sz + (n * sz - (i * sz + sz))) = xs.drop (n * sz - sz) ++ C := by
        rw [List.append_assoc, List.drop_append, List.drop_of_length_le (by omega), List.nil_append, List.drop_append_of_le_length (by omega)]
        congr 2
        omega
      rw [t1, t2]
      show ((A ++ xs.take (i * sz) ++ xs.drop (i * sz + sz) ++ (xs.drop (n * sz - sz) ++ C)).drop A.length).take (n * sz) = _
      rw [List.append_assoc, List.append_assoc, List.drop_left]
      rw [show xs.take (i * sz) ++ (xs.drop (i * sz + sz) ++ (xs.drop (n * sz - sz) ++ C)) = (xs.take (i * sz) ++ xs.drop (i * sz + sz) ++ xs.drop (n * sz - sz)) ++ C by simp]
      rw [List.take_append_of_le_length (by simp; omega), List.take_of_length_le (by simp; omega)]
end Go.Proofs.YthefofclbepkoaaDoor

/- Contract: slices.DeleteFunc at []Tie. -/
namespace Go.Proofs.YthefofclbepkoaaDoor
open Go Go.RowKit




def tieAg (_ : World) (d : Tie) (u : Value) : Prop := u = .agg #[.string d.bond, .int .i64 d.src, .int .i64 d.dst] ∧ d.ok
theorem del_ties_info : (Tryd.prog.info? 102).map (fun i => (i.zero, i.size, i.bytes)) = some (some (.agg #[.string .empty, .int .i64 0, .int .i64 0]), 3, 32) := by kernel_rfl
end Go.Proofs.YthefofclbepkoaaDoor

/- Contracts: slices.Delete of one node, of one tie, of one property. -/
namespace Go.Proofs.YthefofclbepkoaaDoor
open Go Go.RowKit

theorem wp_append_z {P : Program} (w : World) {o : Oper} {a : Act} {K : Act → World → Prop} {Q : Exit → Act → World → Prop} (s x : Operand) (t tn : TypeId)
    (ho : o.op = .call { callee := .builtin .append, args := #[s, x], argTypes := #[t, tn] }) (v u : Value) (hs : a.eval s = v) (hx : a.eval x = u) {v' : Value} {w' : World}
    (hr : (Builtin.append_ #[t, tn] o.type #[v, u]).run P w = .ok v' w') (h : K (a.put o.dst v') w') : o.wp P a w K Q := by
  unfold Oper.wp execOp
  simp only [ho, resolve, invoke, builtin, Sem.run_bind, Sem.run_pure, Result.andThen_ok, List.map_toArray, List.map_cons, List.map_nil, hs, hx, hr]
  exact h


end Go.Proofs.YthefofclbepkoaaDoor

/- Contracts: slices.Delete of one field, of one kind, of one bond. -/
namespace Go.Proofs.YthefofclbepkoaaDoor
open Go Go.RowKit



end Go.Proofs.YthefofclbepkoaaDoor

/- Contract: change.rename. -/
namespace Go.Proofs.YthefofclbepkoaaDoor
open Go Go.RowKit


theorem chas_some {l : List Fld} {nm : ByteArray} (h : chas l nm = true) : ∃ f, l[cpos l nm]? = some f := by
  unfold chas eqAt at h
  cases hd : l[cpos l nm]? with
  | none => rw [hd] at h; simp at h
  | some d => exact ⟨d, rfl⟩
def renE (fs : List Fld) (nm tow : ByteArray) : Int := if chas fs nm then (if nameE tow = 0 then (if chas fs tow then 7 else 0) else nameE tow) else 5
def delF (fs : List Fld) (nm : ByteArray) : List Fld := fs.take (cpos fs nm) ++ fs.drop (cpos fs nm + 1)
def renF (fs : List Fld) (nm tow : ByteArray) : List Fld := match fs[cpos fs nm]? with | some f => addF (delF fs nm) ⟨tow, f.ty, f.must, f.key⟩ | none => fs
theorem chain_del {l : List Fld} (h : Rise l) (p : Nat) : Rise (l.take p ++ l.drop (p + 1)) := by
  unfold Rise at *
  rw [← List.eraseIdx_eq_take_drop_succ]
  exact h.sublist (List.eraseIdx_sublist _ _)
end Go.Proofs.YthefofclbepkoaaDoor

/- Contract: change.fields. -/
namespace Go.Proofs.YthefofclbepkoaaDoor
open Go Go.RowKit


structure Chg where
  what : Int
  name : ByteArray
  kind : Knd
  bond : Bnd
  fld : Fld
  val : Val
  tow : ByteArray
def chgCells (c : Chg) (vo vf : Value) : Array Value := #[.int .i64 c.what, .string c.name, .string c.kind.name, vo, vf, .string c.bond.name, .string c.bond.src, .string c.bond.dst, .int .i64 c.bond.mn, .int .i64 c.bond.mx, .string c.fld.name, .int .i64 c.fld.ty, .bool c.fld.must, .bool c.fld.key, .int .i64 c.val.ty, .int .i64 c.val.n, .string c.val.s, .string c.tow]
structure ChgR (w : World) (vo vf : Value) (c : Chg) : Prop where
  n : Sm c.name
  kn : Sm c.kind.name
  ko : Sl strL w vo c.kind.ofs
  kf : Sl fldL w vf c.kind.fields
  b : c.bond.ok
  f : c.fld.ok
  v : c.val.ok
  t : Sm c.tow
theorem ChgR.below {w w' : World} {vo vf : Value} {c : Chg} (h : ChgR w vo vf c) (hb : Below w.heap.size w w') : ChgR w' vo vf c := ⟨h.n, h.kn, h.ko.below hb, h.kf.below hb, h.b, h.f, h.v, h.t⟩
/-- A schema of the call's own, in a block. -/
structure SW (w : World) (B bs : Nat) (vk vb : Value) (s : Scm) (xs : List Value) : Prop where
  q : w.heap[bs]? = some (.cells #[vk, vb] 25 (0, 0))
  o : OwnS w B vk vb s xs
  l : B ≤ bs
/-- What comes of a change of a schema that lies in a block. -/
def RetSW (B bs : Nat) (s : Scm) (err : Int) (w : World) (e : Ending) (w' : World) : Prop :=
  e = .returned (errV err) ∧ (err = 0 → ∃ vk vb xs, SW w' B bs vk vb s xs) ∧ Below B w w' ∧ (∀ k c fr, k ≠ bs → w.heap[k]? = some (.cells c 25 fr) → w'.heap[k]? = some (.cells c 25 fr)) ∧ w.heap.size ≤ w'.heap.size
theorem RetKF.sw {B bs : Nat} {vk vb : Value} {s s' : Scm} {err err' : Int} {w w0 w' : World} {e : Ending} (h : RetKF B vk vb s err w e w') (hs : s = s') (he : err = err') (hb : Below B w0 w) (hm : Same 25 w0 w) (hsz : w0.heap.size ≤ w.heap.size) (hq : w.heap[bs]? = some (.cells #[vk, vb] 25 (0, 0))) (hl : B ≤ bs) : RetSW B bs s' err' w0 e w' := by
  subst hs; subst he
  obtain ⟨h1, h2, h3, h4, h5⟩ := h
  refine ⟨h1, fun h => ?_, hb.trans h3, fun k c fr _ hk => h4 _ _ _ (hm _ _ _ hk), by omega⟩
  obtain ⟨xs, hx⟩ := h2 h
  exact ⟨vk, vb, xs, h4 _ _ _ hq, hx, hl⟩
def fldE2 (d : Knd) (c : Chg) : Int := if c.what = 3 then addE d.fields c.fld c.val else if c.what = 7 then renE d.fields c.fld.name c.tow else if chas d.fields c.fld.name then 0 else 5
def fldF2 (d : Knd) (c : Chg) : List Fld := if c.what = 3 then addF d.fields c.fld else if c.what = 7 then renF d.fields c.fld.name c.tow else delF d.fields c.fld.name
def fieldsE (s : Scm) (c : Chg) : Int := match s.kinds[(kFind s.kinds c.name).toNat]? with | some d => if kFind s.kinds c.name < 0 then 5 else fldE2 d c | none => 5
def fieldsS (s : Scm) (c : Chg) : Scm := match s.kinds[(kFind s.kinds c.name).toNat]? with | some d => setF s (kFind s.kinds c.name).toNat d (fldF2 d c) | none => s
theorem kFind_cases (l : List Knd) (nm : ByteArray) : kFind l nm < 0 ∨ ∃ (i : Nat) (d : Knd), kFind l nm = i ∧ l[i]? = some d := by
  rcases Int.lt_or_le (kFind l nm) 0 with h | h
  · exact .inl h
  · obtain ⟨k, d, h1, h2, _⟩ := idxI_nonneg h
    exact .inr ⟨k, d, h1, h2⟩
end Go.Proofs.YthefofclbepkoaaDoor

/- Contract: change.drop. -/
namespace Go.Proofs.YthefofclbepkoaaDoor
open Go Go.RowKit



def kndW (w : World) (d : Knd) (u : Value) : Prop := ∃ a n c b m e, u = .agg #[.string d.name, .slice a n c, .slice b m e] ∧ Sl strL w (.slice a n c) d.ofs
set_option maxHeartbeats 400000 in
theorem idx_kndw (g : Nat) (caps : Array Value) (eg : ∀ args w, (callFunc g args).run Tryd.prog w = .ok (.enter g args) w) (p : Knd → Bool) (l : List (Knd)) (v : Value) (w : World) (hv : Sl kndL w v l)
    (hp : PredB Tryd.prog g caps kndW p w) :
    Calls Tryd.prog 70 #[v, .func (.func g) #[] caps] w fun e w' => e = .returned (.int .i64 (idxI p l)) ∧ Below w.heap.size w w' := by
  obtain ⟨A, c, rfl, hlc, hcm⟩ := hv.form
  unfold maxLen at hcm
  go_enter Tryd.func70, Tryd.ntmps70
  go_wp2_with fail
  go_loopw [8] (fun i wr => ∃ k : Nat, k ≤ l.length ∧ i = .int .i64 k ∧ Below w.heap.size w wr ∧ Hid (∀ j x, j < k → l[j]? = some x → p x = false)) (fun i _ => l.length - (intOf i).toNat)
  case atStart => exact ⟨0, Nat.zero_le _, rfl, Below.refl _ _, fun j x hj => absurd hj (Nat.not_lt_zero _)⟩
  case round =>
    obtain ⟨k, hk, rfl, hb, HA⟩ := hrel
    by_cases hlt : k < l.length
    · obtain ⟨d, hd⟩ : ∃ d, l[k]? = some d := ⟨_, List.getElem?_eq_getElem hlt⟩
      obtain ⟨b, o, rfl, u, x, h1, h2, h3, c0, c1, c2⟩ := knd_at (hv.below hb) hd
      obtain ⟨A1, q1, rfl, _, _⟩ := h2.form
      obtain ⟨A2, q2, rfl, _, _⟩ := h3.form
      have hcall := hp d (.agg #[.string d.name, .slice A1 d.ofs.length q1, .slice A2 d.fields.length q2]) wr hb ⟨A1, _, q1, A2, _, q2, rfl, h2⟩
      clear h2 h3
      have HD : Hid (l[k]? = some d) := hd
      clear hd hp hv
      cases hq : p d with
      | true =>
        rw [hq] at hcall
        have HQ : Hid (p d = true) := hq
        clear hq
        go_wp2_with (go_at_fn g; refine hcall.mono ?_; rintro e w' ⟨rfl, hb2⟩)
        go_ret
        exact ⟨ret_int (idxI_hit HA.out HD.out HQ.out).symm, hb.trans (hb2.mono hb.size)⟩
      | false =>
        rw [hq] at hcall
        have HQ : Hid (p d = false) := hq
        clear hq
        go_wp2_with (go_at_fn g; refine hcall.mono ?_; rintro e w' ⟨rfl, hb2⟩)
        go_roundw
        case rel => exact ⟨k + 1, by omega, by go_num, hb.trans (hb2.mono hb.size), miss_step HA.out HD.out HQ.out⟩
        case measure => simp [intOf]; omega
    · have hkl : k = l.length := by omega
      subst hkl
      clear hp hv
      go_wp2_with fail
      go_ret
      exact ⟨ret_int (idxI_miss HA.out).symm, hb⟩
theorem cont_bnds (g : Nat) (caps : Array Value) (eg : ∀ args w, (callFunc g args).run Tryd.prog w = .ok (.enter g args) w) (p : Bnd → Bool) (l : List (Bnd)) (v : Value) (w : World) (hv : Sl bndL w v l)
    (hp : PredB Tryd.prog g caps bndV p w) :
    Calls Tryd.prog 44 #[v, .func (.func g) #[] caps] w fun e w' => e = .returned (.bool (l.any p)) ∧ Below w.heap.size w w' := by
  have h1 := idx_bnds g caps eg p l v w hv hp
  have h2 := idxI_any p l
  have H2 := Lib.hid h2
  clear h2 hv hp eg
  go_enter Tryd.func44, Tryd.ntmps44
  go_wp2_with (go_at_call 81; refine h1.mono ?_; rintro e w' ⟨rfl, hb⟩)
  go_ret
  exact ⟨ret_bool H2.out, hb⟩
def usedB (s : Scm) (nm : ByteArray) : Bool := (s.kinds.any fun k => k.ofs.any fun y => decide (nm = y)) || (s.bonds.any fun b => decide (b.src = nm) || decide (b.dst = nm))
def dropE (s : Scm) (nm : ByteArray) : Int := if kFind s.kinds nm < 0 then 5 else if usedB s nm then 6 else 0
def dropS (s : Scm) (nm : ByteArray) : Scm := ⟨s.kinds.take (kFind s.kinds nm).toNat ++ s.kinds.drop ((kFind s.kinds nm).toNat + 1), s.bonds⟩
theorem OwnKnds.split {w : World} {B : Nat} : ∀ {l : List Knd} {xs : List Value} (i : Nat), i ≤ l.length → OwnKnds w B l xs → OwnKnds w B (l.take i) (xs.take (i * 3)) ∧ OwnKnds w B (l.drop i) (xs.drop (i * 3))
  | l, xs, 0, _, h => by simp only [List.take_zero, Nat.zero_mul, List.drop_zero]; exact ⟨rfl, h⟩
  | [], xs, i + 1, hi, h => by simp at hi
  | d :: l, xs, i + 1, hi, h => by
    obtain ⟨u, x, ys, rfl, h1, h2, h3, h4, h5, h6⟩ := h
    obtain ⟨k1, k2⟩ := h6.split i (by simpa using hi)
    have e : (i + 1) * 3 = i * 3 + 1 + 1 + 1 := by omega
    rw [e]
    exact ⟨⟨u, x, ys.take (i * 3), rfl, h1, h2, h3, h4, h5, k1⟩, k2⟩
theorem FDist.drop1 {xs : List Value} {n i : Nat} (h : FDist xs) (hl : xs.length = n * 3) (hi : i < n) : FDist (xs.take (i * 3) ++ xs.drop ((i + 1) * 3)) := by
  have key : ∀ j x, (xs.take (i * 3) ++ xs.drop ((i + 1) * 3))[j * 3 + 2]? = some x → ∃ j', xs[j' * 3 + 2]? = some x ∧ j' = if j < i then j else j + 1 := fun j x hx => by
    have htl : (xs.take (i * 3)).length = i * 3 := by rw [List.length_take]; omega
    by_cases hj : j < i
    · rw [List.getElem?_append_left (by omega), List.getElem?_take, if_pos (by omega)] at hx
      exact ⟨j, hx, by rw [if_pos hj]⟩
    · rw [List.getElem?_append_right (by omega), htl, List.getElem?_drop, show (i + 1) * 3 + (j * 3 + 2 - i * 3) = (j + 1) * 3 + 2 by omega] at hx
      exact ⟨j + 1, hx, by rw [if_neg hj]⟩
  intro a b x y k hab hx hy hk
  obtain ⟨a', ha, ea⟩ := key a x hx
  obtain ⟨b', hb, eb⟩ := key b y hy
  refine h a' b' x y k ?_ ha hb hk
  rw [ea, eb]
  split <;> split <;> omega
theorem OwnS.drop1 {w : World} {B : Nat} {vk vk' vb : Value} {s : Scm} {xs : List Value} {i m : Nat} (h : OwnS w B vk vb s xs) (hm : s.kinds.length = m + 1) (hi : i ≤ m) {w' : World} (hn : Own w' B 42 3 vk' m (xs.take (i * 3) ++ xs.drop ((i + 1) * 3)))
    (h1 : Same 9 w w') (h2 : Same 80 w w') (h3 : Same 77 w w') : OwnS w' B vk' vb ⟨s.kinds.take i ++ s.kinds.drop (i + 1), s.bonds⟩ (xs.take (i * 3) ++ xs.drop ((i + 1) * 3)) := by
  refine ⟨?_, (((h.o.split i (by omega)).1.append (h.o.split (i + 1) (by omega)).2).same h1 h2), h.b.same h3, h.k, h.d.drop1 h.n.1 (by omega)⟩
  show Own w' B 42 3 vk' (s.kinds.take i ++ s.kinds.drop (i + 1)).length _
  have : (s.kinds.take i ++ s.kinds.drop (i + 1)).length = m := by simp; omega
  rw [this]
  exact hn
end Go.Proofs.YthefofclbepkoaaDoor

/- Contract: change.drop. -/
namespace Go.Proofs.YthefofclbepkoaaDoor
open Go Go.RowKit


end Go.Proofs.YthefofclbepkoaaDoor

/- Contract: change.bonds. -/
namespace Go.Proofs.YthefofclbepkoaaDoor
open Go Go.RowKit


theorem OwnS.setB {w w' : World} {B n : Nat} {vk vb vb' : Value} {s : Scm} {xs : List Value} {bs' : List Bnd} (h : OwnS w B vk vb s xs) (hn : n = bs'.length) (hb : Own w' B 77 5 vb' n (bs'.flatMap Bnd.enc)) (hk : ∀ x ∈ bs', x.ok)
    (h1 : Same 42 w w') (h2 : Same 9 w w') (h3 : Same 80 w w') : OwnS w' B vk vb' ⟨s.kinds, bs'⟩ xs := by
  subst hn
  exact ⟨h.n.same h1, h.o.same h2 h3, hb, hk, h.d⟩
def rngOf (b : Bnd) (mn mx : Int) : Bnd := ⟨b.name, b.src, b.dst, mn, mx⟩
theorem set_same {α : Type} {xs : List α} {k : Nat} {v : α} (h : xs[k]? = some v) : xs.set k v = xs := by
  apply List.ext_getElem?
  intro j
  rw [List.getElem?_set]
  split
  · rename_i e; subst e; split
    · exact h.symm
    · rename_i e; rw [List.getElem?_eq_none (by omega)] at h; cases h
  · rfl
theorem bnd_rng {l : List Bnd} {i : Nat} {d : Bnd} (hd : l[i]? = some d) (mn mx : Int) : ((l.flatMap Bnd.enc).set (i * 5 + 3) (.int .i64 mn)).set (i * 5 + 4) (.int .i64 mx) = (l.set i (rngOf d mn mx)).flatMap Bnd.enc := by
  rw [← flat_set Bnd.enc_len l i (rngOf d mn mx) (List.getElem?_eq_some_iff.1 hd).1]
  show _ = ((((((l.flatMap Bnd.enc).set (i * 5) (.string d.name)).set (i * 5 + 1) (.string d.src)).set (i * 5 + 1 + 1) (.string d.dst)).set (i * 5 + 1 + 1 + 1) (.int .i64 mn)).set (i * 5 + 1 + 1 + 1 + 1) (.int .i64 mx))
  rw [set_same (k := i * 5) (v := .string d.name) (flat_get (j := 0) Bnd.enc_len hd rfl), set_same (k := i * 5 + 1) (v := .string d.src) (flat_get (j := 1) Bnd.enc_len hd rfl), set_same (k := i * 5 + 1 + 1) (v := .string d.dst) (flat_get (j := 2) Bnd.enc_len hd rfl)]
def bondsE (s : Scm) (c : Chg) : Int := if bFind s.bonds c.name < 0 then 5 else 0
def bondsS (s : Scm) (c : Chg) : Scm := match s.bonds[(bFind s.bonds c.name).toNat]? with
  | some b => ⟨s.kinds, if c.what = 6 then s.bonds.take (bFind s.bonds c.name).toNat ++ s.bonds.drop ((bFind s.bonds c.name).toNat + 1) else s.bonds.set (bFind s.bonds c.name).toNat (rngOf b c.bond.mn c.bond.mx)⟩
  | none => s
theorem bFind_cases (l : List Bnd) (nm : ByteArray) : bFind l nm < 0 ∨ ∃ (i : Nat) (d : Bnd), bFind l nm = i ∧ l[i]? = some d := by
  rcases Int.lt_or_le (bFind l nm) 0 with h | h
  · exact .inl h
  · obtain ⟨k, d, h1, h2, _⟩ := idxI_nonneg h
    exact .inr ⟨k, d, h1, h2⟩
end Go.Proofs.YthefofclbepkoaaDoor

/- Plain: a region that draws its order, whose loads may be taken first: what the loads read must stand behind each operation but the very last one (on which all others bear). No condition. -/
namespace Go.Proofs.YthefofclbepkoaaDoor
open Go Go.RowKit
section
variable {P : Program} {ops : Array Oper} {Q : Exit → Act → World → Prop} {md : Region.Mode} {S : World → Prop} {n : Nat}

/-- Whatever order: S holds behind each operation but n. -/
def wpAnyX (P : Program) (md : Region.Mode) (ops : Array Oper) (Q : Exit → Act → World → Prop) (S : World → Prop) (n : Nat) : Nat → Array Bool → Act → World → Prop
  | 0, l, a, w => Region.ready md ops l = [] ∧ Q .normal a w
  | f + 1, l, a, w => (Region.ready md ops l = [] → Q .normal a w) ∧
    ∀ i ∈ Region.ready md ops l, wpOp P ops Q i (fun a' w' => (i ≠ n → S w') ∧ wpAnyX P md ops Q S n f (l.setIfInBounds i true) a' w') a w
theorem wpAny_of_x : ∀ (f : Nat) (l : Array Bool) (a : Act) (w : World), wpAnyX P md ops Q S n f l a w → wpAny P md ops Q f l a w
  | 0, _, _, _, h => h
  | f + 1, _, _, _, h => ⟨h.1, fun i hi => wpOp_mono (fun a' w' h' => wpAny_of_x f _ a' w' h'.2) (h.2 i hi)⟩
theorem wp_region_x {id : Nat} {a : Act} {w : World} (n f : Nat) (l : Array Bool) (S : World → Prop) (hm : P.follows .mixedOrders = true) (hf : ops.size = f) (hl : Array.replicate f false = l) (hS : S w.drew) (h : S w.drew → wpAnyX P .any ops Q S n f l a w.drew) : (Code.region id ops true).wp P Q a w := by
  subst hf; subst hl
  exact wp_region_any hm (wpAny_of_x _ _ _ _ (h hS))
theorem wpAnyX_first {i : Nat} {oi : Oper} {v : Value} (hi : ops[i]? = some oi) (hsel : ∀ (j : Nat) (o : Oper) cs b, ops[j]? = some o → o.op ≠ .select cs b) (hQ : ∀ c a w, Q (.panic c) (a.put oi.dst v) w → Q (.panic c) a w)
    (hs : Region.sinkB md ops n = true) (hc : tailB md ops n = true) (hn : n < ops.size) (hin : i < n) :
    ∀ (f : Nat) (l : Array Bool) (a : Act) (w : World), HeadInv md ops n l →
      (∀ j oj, ops[j]? = some oj → j ≠ i → l.getD j true = false → (∀ e ∈ oj.after, Region.binds md e = true → e.on ≠ i) → oi.apart ops oj = true) →
      i ∈ Region.ready md ops l → YieldsIf P ops S oi v a → S w → wpAnyX P md ops Q S n f (l.setIfInBounds i true) (a.put oi.dst v) w → wpAnyX P md ops Q S n (f + 1) l a w := by
  intro f
  induction f with
  | zero =>
    intro l a w _ _ hr hy hS H
    refine ⟨fun h => (by rw [h] at hr; cases hr), fun j hj => ?_⟩
    by_cases hji : j = i
    · subst hji; exact hy.wpOp hi hS ⟨fun _ => hS, H⟩
    · have := ready_mono hj hji
      rw [H.1] at this
      cases this
  | succ f ih =>
    intro l a w inv hfree hr hy hS H
    have hun := (mem_ready.1 hr).1
    refine ⟨fun h => (by rw [h] at hr; cases hr), fun j hj => ?_⟩
    have hjn : j < n := by
      rcases Nat.lt_or_ge j n with h | h
      · exact h
      · exact absurd hj (tail_waits2 hs hc hn inv _ i rfl hin hun j h)
    by_cases hji : j = i
    · subst hji; exact hy.wpOp hi hS ⟨fun _ => hS, H⟩
    · have h1 := H.2 j (ready_mono hj hji)
      obtain ⟨hjun, oj, hoj, hall⟩ := mem_ready.1 hj
      have hnot : ∀ e ∈ oj.after, Region.binds md e = true → e.on ≠ i := fun e he hb heq => by
        have h1 := hall e he hb
        rw [heq, getD_both hun] at h1
        cases h1
      have h2 := wpOp_putIf hoj (hfree j oj hoj hji hjun hnot) (fun cs b => hsel i oi cs b hi) (fun cs b => hsel j oj cs b hoj) hQ hy h1
      have hfree' : ∀ k ok, ops[k]? = some ok → k ≠ i → (l.setIfInBounds j true).getD k true = false → (∀ e ∈ ok.after, Region.binds md e = true → e.on ≠ i) → oi.apart ops ok = true := fun k ok hk hki hun hno => by
        refine hfree k ok hk hki ?_ hno
        by_cases hjk : j = k
        · subst hjk; exact hjun
        · rw [getD_set_ne true hjk] at hun; exact hun
      refine wpOp_mono (fun a' w' h3 => ⟨h3.2.1, ih (l.setIfInBounds j true) a' w' (inv.set hj hjn) hfree' (ready_mono hr (Ne.symm hji)) h3.1 (h3.2.1 (by omega)) ?_⟩) h2
      rw [Array.setIfInBounds_comm _ _ hji]
      exact h3.2.2
/-- What is listed is closed, and nothing from n on is. -/
def headB (md : Region.Mode) (ops : Array Oper) (n : Nat) (l : Array Bool) : Bool :=
  decide (l.size = ops.size) && ((List.range ops.size).all fun j => !(l.getD j false) || match ops[j]? with | some o => o.after.all fun e => !(Region.binds md e) || l.getD e.on false | none => true) &&
  ((List.range ops.size).all fun t => decide (t < n) || !(l.getD t true))
theorem headB_inv {l : Array Bool} (h : headB md ops n l = true) : HeadInv md ops n l := by
  simp only [headB, Bool.and_eq_true, decide_eq_true_eq] at h
  obtain ⟨⟨h1, h2⟩, h3⟩ := h
  refine ⟨h1, fun j oj hj hl e he hb => ?_, fun t ht htl => ?_⟩
  · have := List.all_eq_true.1 h2 j (List.mem_range.2 (Array.getElem?_eq_some_iff.1 hj).1)
    rw [hl, hj] at this
    simp only [Bool.not_true, Bool.false_or] at this
    obtain ⟨k, hk, rfl⟩ := Array.mem_iff_getElem.1 he
    have h5 := (Array.all_eq_true.1 this) k hk
    rw [hb] at h5
    simpa using h5
  · have := List.all_eq_true.1 h3 t (List.mem_range.2 htl)
    simp only [Bool.or_eq_true, decide_eq_true_eq, Bool.not_eq_true'] at this
    rcases this with h | h
    · omega
    · exact h
def takeXB (md : Region.Mode) (ops : Array Oper) (n i : Nat) (l : Array Bool) : Bool :=
  Region.noSelect ops && decide (n < ops.size) && Region.sinkB md ops n && tailB md ops n && headB md ops n l && decide (i < n) && Region.free md ops l i && (Region.ready md ops l).contains i
theorem wpAnyX_take {i : Nat} {oi : Oper} {v : Value} {f : Nat} {l : Array Bool} {a : Act} {w : World} (hi : ops[i]? = some oi) (hB : takeXB md ops n i l = true)
    (hQ : ∀ c a w, Q (.panic c) (a.put oi.dst v) w → Q (.panic c) a w) (hy : YieldsIf P ops S oi v a) (hS : S w) (h : wpAnyX P md ops Q S n f (l.setIfInBounds i true) (a.put oi.dst v) w) : wpAnyX P md ops Q S n (f + 1) l a w := by
  simp only [takeXB, Bool.and_eq_true, decide_eq_true_eq] at hB
  obtain ⟨⟨⟨⟨⟨⟨⟨h1, h2⟩, h3⟩, h4⟩, h5⟩, h6⟩, h7⟩, h8⟩ := hB
  exact wpAnyX_first hi (Region.noSelect_spec h1) hQ h3 h4 h2 h6 f l a w (headB_inv h5) (Region.free_spec hi h7) (by simpa using h8) hy hS h
/-- One alone may come up. -/
theorem wpAnyX_op {i : Nat} {o : Oper} {f : Nat} {l : Array Bool} {a : Act} {w : World} (hi : ops[i]? = some o) (hr : Region.ready md ops l = [i]) (hg : o.guard = none)
    (h : ∀ K : Act → World → Prop, (∀ a2 w2, (i ≠ n → S w2) → ((i ≠ n → S w2) → wpAnyX P md ops Q S n f (l.setIfInBounds i true) a2 w2) → K a2 w2) → Oper.wp P o a w K Q) : wpAnyX P md ops Q S n (f + 1) l a w := by
  refine ⟨fun h0 => (by rw [hr] at h0; cases h0), fun j hj => ?_⟩
  rw [hr] at hj
  obtain rfl : j = i := by simpa using hj
  unfold wpOp
  simp only [hi]
  rw [if_pos (by simp [Region.wanted, hg])]
  exact .inl (h _ (fun a2 w2 h1 h2 => ⟨h1, h2 h1⟩))
theorem wpAnyX_done {f : Nat} {l : Array Bool} {a : Act} {w : World} (hr : Region.ready md ops l = []) (h : Q .normal a w) : wpAnyX P md ops Q S n f l a w := by
  cases f with
  | zero => exact ⟨hr, h⟩
  | succ f => exact ⟨fun _ => h, by rw [hr]; simp⟩
end
end Go.Proofs.YthefofclbepkoaaDoor

/- Contract: change.do, where a kind is added. -/
namespace Go.Proofs.YthefofclbepkoaaDoor
open Go Go.RowKit


theorem op_callx {P : Program} {o : Oper} {a : Act} {w : World} {K : Act → World → Prop} {Q : Exit → Act → World → Prop} (g : Nat) (vs : Array Value)
    (hr : (execOp a.eval o).run P w = .ok (.enter g vs) w) {R : Ending → World → Prop}
    (h : Calls P g vs w R) (hk : ∀ e w', R e w' → ∃ u, e = .returned u ∧ K (a.put o.dst u) w') : Oper.wp P o a w K Q := by
  unfold Oper.wp
  rw [hr, Oper.upon_enter]
  exact h.mono fun e w' hR => by
    obtain ⟨u, rfl, hK⟩ := hk e w' hR
    exact hK
theorem op_val {P : Program} {o : Oper} {a : Act} {w w' : World} {K : Act → World → Prop} {Q : Exit → Act → World → Prop} (v : Value)
    (hr : (execOp a.eval o).run P w = .ok (.value v) w') (h : K (a.put o.dst v) w') : Oper.wp P o a w K Q := by
  unfold Oper.wp
  rw [hr]
  exact h
def akS (s : Scm) (d : Knd) : Scm := ⟨s.kinds ++ [d], s.bonds⟩
end Go.Proofs.YthefofclbepkoaaDoor

/- Contract: change.do, where a bond is added. -/
namespace Go.Proofs.YthefofclbepkoaaDoor
open Go Go.RowKit


def abS (s : Scm) (d : Bnd) : Scm := ⟨s.kinds, s.bonds ++ [d]⟩
end Go.Proofs.YthefofclbepkoaaDoor

/- Plain: what change.do makes of a schema. No condition. -/
namespace Go.Proofs.YthefofclbepkoaaDoor
open Go Go.RowKit

def chgE (s : Scm) (c : Chg) : Int := if c.what = 1 ∨ c.what = 5 then 0 else if c.what = 2 then dropE s c.name else if c.what = 3 ∨ c.what = 4 ∨ c.what = 7 then fieldsE s c else if c.what = 6 ∨ c.what = 8 then bondsE s c else 1
def chgS (s : Scm) (c : Chg) : Scm := if c.what = 1 then akS s c.kind else if c.what = 5 then abS s c.bond else if c.what = 2 then dropS s c.name else if c.what = 3 ∨ c.what = 4 ∨ c.what = 7 then fieldsS s c else bondsS s c
theorem RetSW.first {B bs : Nat} {s : Scm} {err : Int} {w w0 w' : World} {e : Ending} (hb : Below w.heap.size w w0) (hB : B ≤ w.heap.size) (h : RetSW B bs s err w0 e w') : RetSW B bs s err w e w' := by
  obtain ⟨h1, h2, h3, h4, h5⟩ := h
  exact ⟨h1, h2, (hb.mono hB).trans h3, fun k c fr hne hk => h4 k c fr hne (Same.below hb _ _ _ hk), by have := hb.size; omega⟩
theorem SW.below {w w' : World} {B bs : Nat} {vk vb : Value} {s : Scm} {xs : List Value} (h : SW w B bs vk vb s xs) (hb : Below w.heap.size w w') : SW w' B bs vk vb s xs :=
  ⟨(hb.block _ (Array.getElem?_eq_some_iff.1 h.q).1).trans h.q, h.o.below hb, h.l⟩
end Go.Proofs.YthefofclbepkoaaDoor

/- Contract: change.do, where a kind is dropped. -/
namespace Go.Proofs.YthefofclbepkoaaDoor
open Go Go.RowKit


end Go.Proofs.YthefofclbepkoaaDoor

/- Contract: change.do, where fields are others. -/
namespace Go.Proofs.YthefofclbepkoaaDoor
open Go Go.RowKit


end Go.Proofs.YthefofclbepkoaaDoor

/- Contract: change.do, where bonds are others. -/
namespace Go.Proofs.YthefofclbepkoaaDoor
open Go Go.RowKit


end Go.Proofs.YthefofclbepkoaaDoor

/- Contract: change.do, where nothing is done. -/
namespace Go.Proofs.YthefofclbepkoaaDoor
open Go Go.RowKit


end Go.Proofs.YthefofclbepkoaaDoor

/- Contract: change.do. -/
namespace Go.Proofs.YthefofclbepkoaaDoor
open Go Go.RowKit

end Go.Proofs.YthefofclbepkoaaDoor
