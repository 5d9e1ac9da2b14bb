/- Parts: OwnT, ChA, ChP, ChB, DelD, DelT, DelO, DelK, ChC, ChD, ChE, ChF, ChG. -/
import Derived.Test.YtpjnbikkhfnjbaaMg12
import Derived.Deep.RegionHeld3
import Derived.Deep.RegionLaw
import Derived.Test.YtpjnbikkhfnjbaaMg10
import Derived.Test.YtpjnbikkhfnjbaaMg11
import Derived.Test.YtpjnbikkhfnjbaaMg08
/- Contract: index.OwnSchema. -/
namespace Go.Proofs.Ytpjnbikkhfnjbaa
open Go Go.RowKit



theorem clone_bnds_info : (Try.prog.info? 47).map (fun i => (i.zero, i.size, i.bytes)) = some (some (.agg #[.string .empty, .string .empty, .string .empty, .int .i64 0, .int .i64 0]), 5, 64) := by kernel_rfl
theorem clone_strs_info : (Try.prog.info? 9).map (fun i => (i.zero, i.size, i.bytes)) = some (some (.string .empty), 1, 16) := by kernel_rfl
theorem clone_flds_info : (Try.prog.info? 31).map (fun i => (i.zero, i.size, i.bytes)) = some (some (.agg #[.string .empty, .int .i64 0, .bool false, .bool false]), 4, 32) := by kernel_rfl
theorem clonec_knds_info : (Try.prog.info? 35).map (fun i => (i.zero, i.size, i.bytes)) = some (some (.agg #[.string .empty, .slice none 0 0, .slice none 0 0]), 3, 64) := by kernel_rfl
set_option maxHeartbeats 2000000 in
theorem clonec_knds {w : World} {A : Option Addr} {n c : Nat} {xs : List Value} (hlen : xs.length = n * 3) (h1 : ∀ u ∈ xs, u.oneCell' = true) (hx : 0 < n → ∃ b o, A = some ⟨b, o, none⟩ ∧ ∀ j u, xs[j]? = some u → w.cell? ⟨b, o + j, none⟩ = some u) (hl : n ≤ 1048576) :
    Calls Try.prog 60 #[.slice A n c] w fun e w' => ∃ u, e = .returned u ∧ Own w' w.heap.size 35 3 u n xs ∧ Below w.heap.size w w' := by
  obtain ⟨i0, ei, ez, ez1, ez2⟩ := info_parts clonec_knds_info
  have q22 : ∀ (w : World) (a : Option Addr) (n c n' c' : Nat), (binOp .eql 22 (.slice a n c) (.slice none n' c')).run Try.prog w = .ok (.bool a.isNone) w := fun w a n c n' c' => Lib.run_eql_slice_nil w _ _ a n c n' c' Try.underlying22
  cases A with
  | none =>
    have h0 : n = 0 := by
      rcases Nat.eq_zero_or_pos n with h | h
      · exact h
      · obtain ⟨_, _, hA, _⟩ := hx h; cases hA
    subst h0
    have hx0 : xs = [] := List.eq_nil_of_length_eq_zero (by rw [hlen, Nat.zero_mul])
    subst hx0
    clear hx hlen h1
    go_enter Try.func60, Try.ntmps60
    go_wp2_with fail
    go_ret
    exact ⟨_, rfl, Own.nil _ _ _ _, Below.refl _ _⟩
  | some a =>
    have hX : Hid (0 < n → ∃ b o, (some a : Option Addr) = some ⟨b, o, none⟩ ∧ ∀ j u, xs[j]? = some u → w.cell? ⟨b, o + j, none⟩ = some u) := hx
    have hL := Lib.hid hlen
    have h1H := Lib.hid h1
    clear hx hlen h1
    go_enter Try.func60, Try.ntmps60
    go_wp2_with (at_builtin; refine wpList_append_q _ rfl (.tmp 5) (.tmp 6) 22 rfl w.heap.size 35 i0 (.agg #[.string .empty, .slice none 0 0, .slice none 0 0]) 3 64 Try.underlying22 ei ez ez1 ez2 rfl (by decide) (.slice (some ⟨w.heap.size, 0, none⟩) 0 0) 0 [] rfl Own.made (some a) n c xs rfl hL.out (fun hp => by
        obtain ⟨b, o, hA, hy⟩ := hX.out hp
        exact ⟨_, hA, fun j u hj => by rw [addr_add]; exact cell_below ((Below.refl _ _).alloc (Nat.le_refl _) _) (hy j u hj)⟩) h1H.out (by unfold maxLen; omega) (by omega) (by simp) ?_; intro v7 w7 hown7 hg7 hat7)
    have hb7 : Below w.heap.size w w7 := ((Below.refl _ _).alloc (Nat.le_refl _) _).grown hg7 (by simp) (fun k hk => Nat.le_of_eq (by simpa [Value.ownBlock] using hk))
    simp only [Nat.zero_add, List.nil_append] at hown7
    clear hg7 hat7
    go_ret
    exact ⟨_, rfl, hown7, hb7⟩
end Go.Proofs.Ytpjnbikkhfnjbaa

/- Contracts: change.field, change.add. -/
namespace Go.Proofs.Ytpjnbikkhfnjbaa
open Go Go.RowKit


def cpos (fs : List Fld) (nm : ByteArray) : Nat := lowI (fldC nm) fs
def chas (fs : List Fld) (nm : ByteArray) : Bool := eqAt (fldC nm) fs (cpos fs nm)
theorem OwnKnds.get {w : World} {B : Nat} : ∀ {l : List Knd} {xs : List Value} {i : Nat} {d : Knd}, OwnKnds w B l xs → l[i]? = some d →
    ∃ u x, xs[i * 3]? = some (.string d.name) ∧ xs[i * 3 + 1]? = some u ∧ xs[i * 3 + 2]? = some x ∧ Sm d.name ∧ (∀ p ∈ d.ofs, Sm p) ∧ Own w B 9 1 u d.ofs.length (d.ofs.map Value.string) ∧ (∀ p ∈ d.fields, p.ok) ∧ Own w B 31 4 x d.fields.length (d.fields.flatMap Fld.enc)
  | [], xs, i, d, h, hi => by simp at hi
  | e :: l, xs, 0, d, h, hi => by
    simp at hi
    subst hi
    obtain ⟨u, x, ys, rfl, a1, a2, a3, a4, a5, _⟩ := h
    exact ⟨u, x, rfl, rfl, rfl, a1, a2, a3, a4, a5⟩
  | e :: l, xs, i + 1, d, h, hi => by
    obtain ⟨u, x, ys, rfl, _, _, _, _, _, a6⟩ := h
    obtain ⟨u', x', b1, b2, b3, hr⟩ := OwnKnds.get a6 (by simpa using hi)
    have e1 : (i + 1) * 3 = i * 3 + 1 + 1 + 1 := by omega
    have e2 : (i + 1) * 3 + 1 = i * 3 + 1 + 1 + 1 + 1 := by omega
    have e3 : (i + 1) * 3 + 2 = i * 3 + 2 + 1 + 1 + 1 := by omega
    exact ⟨u', x', by rw [e1]; exact b1, by rw [e2]; exact b2, by rw [e3]; exact b3, hr⟩
/-- Another row of fields in the place of one: what is read of the other rows lies where it lay. -/
theorem OwnKnds.put {w w' : World} {B : Nat} {fs : List Fld} {v : Value} (h1 : Same 9 w w') (hk : ∀ p ∈ fs, p.ok) (ho : Own w' B 31 4 v fs.length (fs.flatMap Fld.enc)) :
    ∀ {l : List Knd} {xs : List Value} {i : Nat} {d : Knd}, OwnKnds w B l xs → l[i]? = some d → (∀ j e x n ys, j ≠ i → l[j]? = some e → xs[j * 3 + 2]? = some x → Own w B 31 4 x n ys → Own w' B 31 4 x n ys) →
    OwnKnds w' B (l.set i ⟨d.name, d.ofs, fs⟩) (xs.set (i * 3 + 2) v)
  | [], xs, i, d, h, hi, _ => by simp at hi
  | e :: l, xs, 0, d, h, hi, hoth => by
    simp at hi
    subst hi
    obtain ⟨u, x, ys, rfl, a1, a2, a3, a4, a5, a6⟩ := h
    refine ⟨u, v, ys, rfl, a1, a2, a3.same h1, hk, ho, ?_⟩
    have : ∀ {l : List Knd} {ys : List Value}, OwnKnds w B l ys → (∀ j e x n zs, l[j]? = some e → ys[j * 3 + 2]? = some x → Own w B 31 4 x n zs → Own w' B 31 4 x n zs) → OwnKnds w' B l ys := by
      intro l
      induction l with
      | nil => intro ys h _; exact h
      | cons e l ih =>
        intro ys h hh
        obtain ⟨u, x, zs, rfl, b1, b2, b3, b4, b5, b6⟩ := h
        exact ⟨u, x, zs, rfl, b1, b2, b3.same h1, b4, hh 0 e x _ _ rfl rfl b5, ih b6 (fun j e' x' n zs' hj hx => hh (j + 1) e' x' n zs' (by simpa using hj) (by rw [show (j + 1) * 3 + 2 = j * 3 + 2 + 1 + 1 + 1 by omega]; exact hx))⟩
    exact this a6 (fun j e' x' n zs' hj hx => hoth (j + 1) e' x' n zs' (by omega) (by simpa using hj) (by rw [show (j + 1) * 3 + 2 = j * 3 + 2 + 1 + 1 + 1 by omega]; exact hx))
  | e :: l, xs, i + 1, d, h, hi, hoth => by
    obtain ⟨u, x, ys, rfl, a1, a2, a3, a4, a5, a6⟩ := h
    have e3 : (i + 1) * 3 + 2 = i * 3 + 2 + 1 + 1 + 1 := by omega
    rw [e3]
    exact ⟨u, x, ys.set (i * 3 + 2) v, rfl, a1, a2, a3.same h1, a4, hoth 0 e x _ _ (by omega) rfl rfl a5, OwnKnds.put h1 hk ho a6 (by simpa using hi) (fun j e' x' n zs' hj hx hxx => hoth (j + 1) e' x' n zs' (by omega) (by simpa using hx) (by rw [show (j + 1) * 3 + 2 = j * 3 + 2 + 1 + 1 + 1 by omega]; exact hxx))⟩
end Go.Proofs.Ytpjnbikkhfnjbaa

/- Plain: the fields of one kind of an owned schema are others. -/
namespace Go.Proofs.Ytpjnbikkhfnjbaa
open Go Go.RowKit

def setF (s : Scm) (i : Nat) (d : Knd) (fs : List Fld) : Scm := ⟨s.kinds.set i ⟨d.name, d.ofs, fs⟩, s.bonds⟩
theorem field_put {Wx W5 : World} {B gb o ck i : Nat} {vb x u5 : Value} {s : Scm} {d : Knd} {xs : List Value} {fs : List Fld}
    (hS : OwnS Wx B (.slice (some ⟨gb, o, none⟩) s.kinds.length ck) vb s xs) (hd : s.kinds[i]? = some d) (hx : xs[i * 3 + 2]? = some x)
    (ho : Own W5 B 31 4 u5 fs.length (fs.flatMap Fld.enc)) (hg : Wx.grownBy W5 x.ownBlock) (hat : u5.ownBlock = x.ownBlock ∨ ∃ k, u5.ownBlock = some k ∧ Wx.heap.size ≤ k) (hok : ∀ p ∈ fs, p.ok) :
    OwnS (W5.setCell ⟨gb, o + i * 3 + 2, none⟩ u5) B (.slice (some ⟨gb, o, none⟩) s.kinds.length ck) vb (setF s i d fs) (xs.set (i * 3 + 2) u5) ∧
      (∀ T, 31 ≠ T → 35 ≠ T → Same T Wx (W5.setCell ⟨gb, o + i * 3 + 2, none⟩ u5)) ∧ W5.frozen? ⟨gb, o + i * 3 + 2, none⟩ = false ∧ W5.cell? ⟨gb, o + i * 3 + 2, none⟩ = some x ∧ B ≤ gb := by
  obtain ⟨_, x', _, _, k2, _, _, _, _, ox⟩ := hS.o.get hd
  obtain rfl := Option.some.inj (hx.symm.trans k2)
  have hil := (List.getElem?_eq_some_iff.1 hd).1
  have hSk : ∀ T, 31 ≠ T → Same T Wx W5 := fun T hT => Same.grown ox hT hg
  have n5 := hS.n.same (hSk _ (by decide))
  have hset : ∀ T, 35 ≠ T → Same T W5 (W5.setCell ⟨gb, o + i * 3 + 2, none⟩ u5) := fun T hT => Same.cellOf n5 hT _ _
  have hdist : ∀ (j : Nat) (y : Value) (b : Nat), j ≠ i → xs[j * 3 + 2]? = some y → y.ownBlock = some b → x.ownBlock ≠ some b := fun j y b hji hy hb hxb => by
    rcases Nat.lt_or_ge j i with h | h
    · exact hS.d j i y x b h hy hx hb hxb
    · exact hS.d i j x y b (by omega) hx hy hxb hb
  refine ⟨⟨?_, ?_, (hS.b.same (hSk _ (by decide))).same (hset _ (by decide)), hS.k, hS.d.put fun j y b hji hy hb => ?_⟩, fun T h1 h2 => (hSk T h1).trans (hset T h2), n5.frozen rfl _, n5.cell (j := i * 3 + 2) rfl hx, (n5.lt gb rfl).1⟩
  · have := n5.store (i * 3 + 2) (by omega) u5
    show Own _ B 35 3 _ (s.kinds.set i ⟨d.name, d.ofs, fs⟩).length _
    rw [List.length_set]
    exact this
  · refine (OwnKnds.put (hSk _ (by decide)) hok ho hS.o hd (fun j e y n ys hji _ hy hoy => ?_)).same (hset _ (by decide)) (hset _ (by decide))
    refine hoy.grown hg ?_
    cases hyb : y.ownBlock with
    | none => exact .inl rfl
    | some b => exact .inr (fun e => hdist j y b hji hy hyb e.symm)
  · rcases hat with h | ⟨k, h, hk⟩
    · rw [h]; exact hdist j y b hji hy hb
    · rw [h]
      intro e
      injection e with e
      subst e
      have := hS.o.flt j y _ hy hb
      omega
end Go.Proofs.Ytpjnbikkhfnjbaa

/- Contract: change.add. -/
namespace Go.Proofs.Ytpjnbikkhfnjbaa
open Go Go.RowKit


def addE (fs : List Fld) (f : Fld) (v : Val) : Int :=
  if chas fs f.name then 7 else if f.key = true ∨ (f.must = true ∧ v.ty = 0) then 3 else if v.ty = 0 then 0 else if valE v = 0 then (if v.ty = f.ty then 0 else 8) else valE v
def addF (fs : List Fld) (f : Fld) : List Fld := fs.take (cpos fs f.name) ++ f :: fs.drop (cpos fs f.name)
/-- What comes of a change of one kind's fields. -/
def RetKF (B : Nat) (vk vb : Value) (s : Scm) (err : Int) (w : World) (e : Ending) (w' : World) : Prop :=
  e = .returned (errV err) ∧ (err = 0 → ∃ xs, OwnS w' B vk vb s xs) ∧ Below B w w' ∧ Same 25 w w' ∧ w.heap.size ≤ w'.heap.size
end Go.Proofs.Ytpjnbikkhfnjbaa

/- Plain law of the model: the shift down of slices.Delete, by one element. No condition. -/
namespace Go.Proofs.Ytpjnbikkhfnjbaa
open Go Go.RowKit

theorem Own.shift {P : Program} {w : World} {B : Nat} {e : TypeId} {g o n c i sz : Nat} {xs : List Value} (t : TypeId) (i0 : TypeInfo) (ht : P.underlying t = some (.slice e)) (hi : P.info? e = some i0) (hs : i0.size = sz)
    (h : Own w B e sz (.slice (some ⟨g, o, none⟩) n c) n xs) (hx1 : ∀ u ∈ xs, u.oneCell' = true) (hin : i < n) (a : Addr) (ha : ∀ j u, (xs.drop ((i + 1) * sz))[j]? = some u → w.cell? (a.add j) = some u) :
    ∃ w', (∀ ty c', (Builtin.append_ #[t, t] ty #[.slice (some ⟨g, o, none⟩) i c, .slice (some a) (n - (i + 1)) c']).run P w = .ok (.slice (some ⟨g, o, none⟩) (n - 1) c) w') ∧
      Own w' B e sz (.slice (some ⟨g, o, none⟩) n c) n (xs.take (i * sz) ++ xs.drop ((i + 1) * sz) ++ xs.drop ((n - 1) * sz)) ∧ w.grownBy w' (some g) := by
  rcases h.2 with ⟨h0, _⟩ | ⟨g', o', cap, cur, hv, hb, hg, h2, h3, h4, h5⟩
  · cases h0
  · injection hv with e1 _ e3
    injection e1 with e1
    injection e1 with e1 e2
    subst e1; subst e2; subst e3
    have hlen := h.1
    have hnc : n * sz ≤ c * sz := Nat.mul_le_mul_right _ h2
    have hin2 : i * sz + sz ≤ n * sz := by have := Nat.mul_le_mul_right sz (show i + 1 ≤ n by omega); rw [Nat.add_mul, Nat.one_mul] at this; exact this
    have e5 : (i + 1) * sz = i * sz + sz := by rw [Nat.add_mul, Nat.one_mul]
    have e6 : (n - 1) * sz = n * sz - sz := by rw [Nat.sub_mul, Nat.one_mul]
    have e7 : (n - (i + 1)) * sz = n * sz - (i * sz + sz) := by rw [Nat.sub_mul, e5]
    have hdl : (xs.drop ((i + 1) * sz)).length = (n - (i + 1)) * sz := by rw [List.length_drop, hlen, Nat.sub_mul]
    have e8 : i + (n - (i + 1)) = n - 1 := by omega
    refine ⟨w.setRow g (cur.toList.take (o + i * sz) ++ xs.drop ((i + 1) * sz) ++ cur.toList.drop (o + i * sz + (xs.drop ((i + 1) * sz)).length)).toArray, fun ty c' => ?_, ⟨?_, .inr ⟨g, o, c, _, rfl, hb, setRow_heap w g cur _ e _ hg, h2, h3, ?_, ?_⟩⟩, grownBy_setRow⟩
    · have := run_append_at (P := P) w t ty e i0 ht hi g o i c cur hg a (n - (i + 1)) c' (xs.drop ((i + 1) * sz)) (by rw [hs, hdl]) ha (fun u hu => hx1 u (List.mem_of_mem_drop hu)) (by omega) (by rw [hs, hdl, e7]; omega)
      rw [hs, e8] at this
      exact this
    · simp only [List.length_append, List.length_take, List.length_drop, hlen, e5, e6]
      omega
    · simp only [List.size_toArray, List.length_append, List.length_take, List.length_drop, Array.length_toList, hlen, e5]
      omega
    · have hcl : cur.toList = cur.toList.take o ++ xs ++ cur.toList.drop (o + n * sz) := by
        conv => lhs; rw [← List.take_append_drop o cur.toList, ← List.take_append_drop (n * sz) (cur.toList.drop o), h5]
        rw [List.drop_drop, List.append_assoc]
      have hol : (cur.toList.take o).length = o := by simp; omega
      generalize cur.toList.take o = A at *
      generalize cur.toList.drop (o + n * sz) = C at *
      rw [hcl, hdl, e7, e5, e6]
      subst hol
      have hxs : xs = xs.take (i * sz) ++ xs.drop (i * sz) := (List.take_append_drop _ _).symm
      have t1 : (A ++ xs ++ C).take (A.length + i * sz) = A ++ xs.take (i * sz) := by
        rw [List.append_assoc, List.take_append, List.take_of_length_le (by omega), show A.length + i * sz - A.length = i * sz by omega, List.take_append_of_le_length (by omega)]
      have t2 : (A ++ xs ++ C).drop (A.length + i * sz + (n * sz - (i * sz + sz))) = xs.drop (n * sz - sz) ++ C := by
        rw [List.append_assoc, List.drop_append, List.drop_of_length_le (by omega), List.nil_append, List.drop_append_of_le_length (by omega)]
        congr 2
        omega
      rw [t1, t2]
      show ((A ++ xs.take (i * sz) ++ xs.drop (i * sz + sz) ++ (xs.drop (n * sz - sz) ++ C)).drop A.length).take (n * sz) = _
      rw [List.append_assoc, List.append_assoc, List.drop_left]
      rw [show xs.take (i * sz) ++ (xs.drop (i * sz + sz) ++ (xs.drop (n * sz - sz) ++ C)) = (xs.take (i * sz) ++ xs.drop (i * sz + sz) ++ xs.drop (n * sz - sz)) ++ C by simp]
      rw [List.take_append_of_le_length (by simp; omega), List.take_of_length_le (by simp; omega)]
end Go.Proofs.Ytpjnbikkhfnjbaa

/- Contract: slices.DeleteFunc at []Tie. -/
namespace Go.Proofs.Ytpjnbikkhfnjbaa
open Go Go.RowKit




def tieAg (_ : World) (d : Tie) (u : Value) : Prop := u = .agg #[.string d.bond, .int .i64 d.src, .int .i64 d.dst] ∧ d.ok
theorem del_ties_info : (Try.prog.info? 79).map (fun i => (i.zero, i.size, i.bytes)) = some (some (.agg #[.string .empty, .int .i64 0, .int .i64 0]), 3, 32) := by kernel_rfl
end Go.Proofs.Ytpjnbikkhfnjbaa

/- Contracts: slices.Delete of one node, of one tie, of one property. -/
namespace Go.Proofs.Ytpjnbikkhfnjbaa
open Go Go.RowKit

theorem wp_append_z {P : Program} (w : World) {o : Oper} {a : Act} {K : Act → World → Prop} {Q : Exit → Act → World → Prop} (s x : Operand) (t tn : TypeId)
    (ho : o.op = .call { callee := .builtin .append, args := #[s, x], argTypes := #[t, tn] }) (v u : Value) (hs : a.eval s = v) (hx : a.eval x = u) {v' : Value} {w' : World}
    (hr : (Builtin.append_ #[t, tn] o.type #[v, u]).run P w = .ok v' w') (h : K (a.put o.dst v') w') : o.wp P a w K Q := by
  unfold Oper.wp execOp
  simp only [ho, resolve, invoke, builtin, Sem.run_bind, Sem.run_pure, Result.andThen_ok, List.map_toArray, List.map_cons, List.map_nil, hs, hx, hr]
  exact h


end Go.Proofs.Ytpjnbikkhfnjbaa

/- Contracts: slices.Delete of one field, of one kind, of one bond. -/
namespace Go.Proofs.Ytpjnbikkhfnjbaa
open Go Go.RowKit



end Go.Proofs.Ytpjnbikkhfnjbaa

/- Contract: change.rename. -/
namespace Go.Proofs.Ytpjnbikkhfnjbaa
open Go Go.RowKit


theorem chas_some {l : List Fld} {nm : ByteArray} (h : chas l nm = true) : ∃ f, l[cpos l nm]? = some f := by
  unfold chas eqAt at h
  cases hd : l[cpos l nm]? with
  | none => rw [hd] at h; simp at h
  | some d => exact ⟨d, rfl⟩
def renE (fs : List Fld) (nm tow : ByteArray) : Int := if chas fs nm then (if nameE tow = 0 then (if chas fs tow then 7 else 0) else nameE tow) else 5
def delF (fs : List Fld) (nm : ByteArray) : List Fld := fs.take (cpos fs nm) ++ fs.drop (cpos fs nm + 1)
def renF (fs : List Fld) (nm tow : ByteArray) : List Fld := match fs[cpos fs nm]? with | some f => addF (delF fs nm) ⟨tow, f.ty, f.must, f.key⟩ | none => fs
theorem chain_del {l : List Fld} (h : Rise l) (p : Nat) : Rise (l.take p ++ l.drop (p + 1)) := by
  unfold Rise at *
  rw [← List.eraseIdx_eq_take_drop_succ]
  exact h.sublist (List.eraseIdx_sublist _ _)
end Go.Proofs.Ytpjnbikkhfnjbaa

/- Contract: change.fields. -/
namespace Go.Proofs.Ytpjnbikkhfnjbaa
open Go Go.RowKit


structure Chg where
  what : Int
  name : ByteArray
  kind : Knd
  bond : Bnd
  fld : Fld
  val : Val
  tow : ByteArray
def chgCells (c : Chg) (vo vf : Value) : Array Value := #[.int .i64 c.what, .string c.name, .string c.kind.name, vo, vf, .string c.bond.name, .string c.bond.src, .string c.bond.dst, .int .i64 c.bond.mn, .int .i64 c.bond.mx, .string c.fld.name, .int .i64 c.fld.ty, .bool c.fld.must, .bool c.fld.key, .int .i64 c.val.ty, .int .i64 c.val.n, .string c.val.s, .string c.tow]
structure ChgR (w : World) (vo vf : Value) (c : Chg) : Prop where
  n : Sm c.name
  kn : Sm c.kind.name
  ko : Sl strL w vo c.kind.ofs
  kf : Sl fldL w vf c.kind.fields
  b : c.bond.ok
  f : c.fld.ok
  v : c.val.ok
  t : Sm c.tow
theorem ChgR.below {w w' : World} {vo vf : Value} {c : Chg} (h : ChgR w vo vf c) (hb : Below w.heap.size w w') : ChgR w' vo vf c := ⟨h.n, h.kn, h.ko.below hb, h.kf.below hb, h.b, h.f, h.v, h.t⟩
/-- A schema of the call's own, in a block. -/
structure SW (w : World) (B bs : Nat) (vk vb : Value) (s : Scm) (xs : List Value) : Prop where
  q : w.heap[bs]? = some (.cells #[vk, vb] 25 (0, 0))
  o : OwnS w B vk vb s xs
  l : B ≤ bs
/-- What comes of a change of a schema that lies in a block. -/
def RetSW (B bs : Nat) (s : Scm) (err : Int) (w : World) (e : Ending) (w' : World) : Prop :=
  e = .returned (errV err) ∧ (err = 0 → ∃ vk vb xs, SW w' B bs vk vb s xs) ∧ Below B w w' ∧ (∀ k c fr, k ≠ bs → w.heap[k]? = some (.cells c 25 fr) → w'.heap[k]? = some (.cells c 25 fr)) ∧ w.heap.size ≤ w'.heap.size
theorem RetKF.sw {B bs : Nat} {vk vb : Value} {s s' : Scm} {err err' : Int} {w w0 w' : World} {e : Ending} (h : RetKF B vk vb s err w e w') (hs : s = s') (he : err = err') (hb : Below B w0 w) (hm : Same 25 w0 w) (hsz : w0.heap.size ≤ w.heap.size) (hq : w.heap[bs]? = some (.cells #[vk, vb] 25 (0, 0))) (hl : B ≤ bs) : RetSW B bs s' err' w0 e w' := by
  subst hs; subst he
  obtain ⟨h1, h2, h3, h4, h5⟩ := h
  refine ⟨h1, fun h => ?_, hb.trans h3, fun k c fr _ hk => h4 _ _ _ (hm _ _ _ hk), by omega⟩
  obtain ⟨xs, hx⟩ := h2 h
  exact ⟨vk, vb, xs, h4 _ _ _ hq, hx, hl⟩
def fldE2 (d : Knd) (c : Chg) : Int := if c.what = 3 then addE d.fields c.fld c.val else if c.what = 7 then renE d.fields c.fld.name c.tow else if chas d.fields c.fld.name then 0 else 5
def fldF2 (d : Knd) (c : Chg) : List Fld := if c.what = 3 then addF d.fields c.fld else if c.what = 7 then renF d.fields c.fld.name c.tow else delF d.fields c.fld.name
def fieldsE (s : Scm) (c : Chg) : Int := match s.kinds[(kFind s.kinds c.name).toNat]? with | some d => if kFind s.kinds c.name < 0 then 5 else fldE2 d c | none => 5
def fieldsS (s : Scm) (c : Chg) : Scm := match s.kinds[(kFind s.kinds c.name).toNat]? with | some d => setF s (kFind s.kinds c.name).toNat d (fldF2 d c) | none => s
theorem kFind_cases (l : List Knd) (nm : ByteArray) : kFind l nm < 0 ∨ ∃ (i : Nat) (d : Knd), kFind l nm = i ∧ l[i]? = some d := by
  rcases Int.lt_or_le (kFind l nm) 0 with h | h
  · exact .inl h
  · obtain ⟨k, d, h1, h2, _⟩ := idxI_nonneg h
    exact .inr ⟨k, d, h1, h2⟩
end Go.Proofs.Ytpjnbikkhfnjbaa

/- Contract: change.drop. -/
namespace Go.Proofs.Ytpjnbikkhfnjbaa
open Go Go.RowKit



def kndW (w : World) (d : Knd) (u : Value) : Prop := ∃ a n c b m e, u = .agg #[.string d.name, .slice a n c, .slice b m e] ∧ Sl strL w (.slice a n c) d.ofs
set_option maxHeartbeats 400000 in
theorem idx_kndw (g : Nat) (caps : Array Value) (eg : ∀ args w, (callFunc g args).run Try.prog w = .ok (.enter g args) w) (p : Knd → Bool) (l : List (Knd)) (v : Value) (w : World) (hv : Sl kndL w v l)
    (hp : PredB Try.prog g caps kndW p w) :
    Calls Try.prog 16 #[v, .func (.func g) #[] caps] w fun e w' => e = .returned (.int .i64 (idxI p l)) ∧ Below w.heap.size w w' := by
  obtain ⟨A, c, rfl, hlc, hcm⟩ := hv.form
  unfold maxLen at hcm
  go_enter Try.func16, Try.ntmps16
  go_wp2_with fail
  go_loopw [8] (fun i wr => ∃ k : Nat, k ≤ l.length ∧ i = .int .i64 k ∧ Below w.heap.size w wr ∧ Hid (∀ j x, j < k → l[j]? = some x → p x = false)) (fun i _ => l.length - (intOf i).toNat)
  case atStart => exact ⟨0, Nat.zero_le _, rfl, Below.refl _ _, fun j x hj => absurd hj (Nat.not_lt_zero _)⟩
  case round =>
    obtain ⟨k, hk, rfl, hb, HA⟩ := hrel
    by_cases hlt : k < l.length
    · obtain ⟨d, hd⟩ : ∃ d, l[k]? = some d := ⟨_, List.getElem?_eq_getElem hlt⟩
      obtain ⟨b, o, rfl, u, x, h1, h2, h3, c0, c1, c2⟩ := knd_at (hv.below hb) hd
      obtain ⟨A1, q1, rfl, _, _⟩ := h2.form
      obtain ⟨A2, q2, rfl, _, _⟩ := h3.form
      have hcall := hp d (.agg #[.string d.name, .slice A1 d.ofs.length q1, .slice A2 d.fields.length q2]) wr hb ⟨A1, _, q1, A2, _, q2, rfl, h2⟩
      clear h2 h3
      have HD : Hid (l[k]? = some d) := hd
      clear hd hp hv
      cases hq : p d with
      | true =>
        rw [hq] at hcall
        have HQ : Hid (p d = true) := hq
        clear hq
        go_wp2_with (go_at_fn g; refine hcall.mono ?_; rintro e w' ⟨rfl, hb2⟩)
        go_ret
        exact ⟨ret_int (idxI_hit HA.out HD.out HQ.out).symm, hb.trans (hb2.mono hb.size)⟩
      | false =>
        rw [hq] at hcall
        have HQ : Hid (p d = false) := hq
        clear hq
        go_wp2_with (go_at_fn g; refine hcall.mono ?_; rintro e w' ⟨rfl, hb2⟩)
        go_roundw
        case rel => exact ⟨k + 1, by omega, by go_num, hb.trans (hb2.mono hb.size), miss_step HA.out HD.out HQ.out⟩
        case measure => simp [intOf]; omega
    · have hkl : k = l.length := by omega
      subst hkl
      clear hp hv
      go_wp2_with fail
      go_ret
      exact ⟨ret_int (idxI_miss HA.out).symm, hb⟩
theorem cont_bnds (g : Nat) (caps : Array Value) (eg : ∀ args w, (callFunc g args).run Try.prog w = .ok (.enter g args) w) (p : Bnd → Bool) (l : List (Bnd)) (v : Value) (w : World) (hv : Sl bndL w v l)
    (hp : PredB Try.prog g caps bndV p w) :
    Calls Try.prog 12 #[v, .func (.func g) #[] caps] w fun e w' => e = .returned (.bool (l.any p)) ∧ Below w.heap.size w w' := by
  have h1 := idx_bnds g caps eg p l v w hv hp
  have h2 := idxI_any p l
  have H2 := Lib.hid h2
  clear h2 hv hp eg
  go_enter Try.func12, Try.ntmps12
  go_wp2_with (go_at_call 24; refine h1.mono ?_; rintro e w' ⟨rfl, hb⟩)
  go_ret
  exact ⟨ret_bool H2.out, hb⟩
def usedB (s : Scm) (nm : ByteArray) : Bool := (s.kinds.any fun k => k.ofs.any fun y => decide (nm = y)) || (s.bonds.any fun b => decide (b.src = nm) || decide (b.dst = nm))
def dropE (s : Scm) (nm : ByteArray) : Int := if kFind s.kinds nm < 0 then 5 else if usedB s nm then 6 else 0
def dropS (s : Scm) (nm : ByteArray) : Scm := ⟨s.kinds.take (kFind s.kinds nm).toNat ++ s.kinds.drop ((kFind s.kinds nm).toNat + 1), s.bonds⟩
theorem OwnKnds.split {w : World} {B : Nat} : ∀ {l : List Knd} {xs : List Value} (i : Nat), i ≤ l.length → OwnKnds w B l xs → OwnKnds w B (l.take i) (xs.take (i * 3)) ∧ OwnKnds w B (l.drop i) (xs.drop (i * 3))
  | l, xs, 0, _, h => by simp only [List.take_zero, Nat.zero_mul, List.drop_zero]; exact ⟨rfl, h⟩
  | [], xs, i + 1, hi, h => by simp at hi
  | d :: l, xs, i + 1, hi, h => by
    obtain ⟨u, x, ys, rfl, h1, h2, h3, h4, h5, h6⟩ := h
    obtain ⟨k1, k2⟩ := h6.split i (by simpa using hi)
    have e : (i + 1) * 3 = i * 3 + 1 + 1 + 1 := by omega
    rw [e]
    exact ⟨⟨u, x, ys.take (i * 3), rfl, h1, h2, h3, h4, h5, k1⟩, k2⟩
theorem FDist.drop1 {xs : List Value} {n i : Nat} (h : FDist xs) (hl : xs.length = n * 3) (hi : i < n) : FDist (xs.take (i * 3) ++ xs.drop ((i + 1) * 3)) := by
  have key : ∀ j x, (xs.take (i * 3) ++ xs.drop ((i + 1) * 3))[j * 3 + 2]? = some x → ∃ j', xs[j' * 3 + 2]? = some x ∧ j' = if j < i then j else j + 1 := fun j x hx => by
    have htl : (xs.take (i * 3)).length = i * 3 := by rw [List.length_take]; omega
    by_cases hj : j < i
    · rw [List.getElem?_append_left (by omega), List.getElem?_take, if_pos (by omega)] at hx
      exact ⟨j, hx, by rw [if_pos hj]⟩
    · rw [List.getElem?_append_right (by omega), htl, List.getElem?_drop, show (i + 1) * 3 + (j * 3 + 2 - i * 3) = (j + 1) * 3 + 2 by omega] at hx
      exact ⟨j + 1, hx, by rw [if_neg hj]⟩
  intro a b x y k hab hx hy hk
  obtain ⟨a', ha, ea⟩ := key a x hx
  obtain ⟨b', hb, eb⟩ := key b y hy
  refine h a' b' x y k ?_ ha hb hk
  rw [ea, eb]
  split <;> split <;> omega
theorem OwnS.drop1 {w : World} {B : Nat} {vk vk' vb : Value} {s : Scm} {xs : List Value} {i m : Nat} (h : OwnS w B vk vb s xs) (hm : s.kinds.length = m + 1) (hi : i ≤ m) {w' : World} (hn : Own w' B 35 3 vk' m (xs.take (i * 3) ++ xs.drop ((i + 1) * 3)))
    (h1 : Same 9 w w') (h2 : Same 31 w w') (h3 : Same 47 w w') : OwnS w' B vk' vb ⟨s.kinds.take i ++ s.kinds.drop (i + 1), s.bonds⟩ (xs.take (i * 3) ++ xs.drop ((i + 1) * 3)) := by
  refine ⟨?_, (((h.o.split i (by omega)).1.append (h.o.split (i + 1) (by omega)).2).same h1 h2), h.b.same h3, h.k, h.d.drop1 h.n.1 (by omega)⟩
  show Own w' B 35 3 vk' (s.kinds.take i ++ s.kinds.drop (i + 1)).length _
  have : (s.kinds.take i ++ s.kinds.drop (i + 1)).length = m := by simp; omega
  rw [this]
  exact hn
end Go.Proofs.Ytpjnbikkhfnjbaa

/- Contract: change.drop. -/
namespace Go.Proofs.Ytpjnbikkhfnjbaa
open Go Go.RowKit


end Go.Proofs.Ytpjnbikkhfnjbaa

/- Contract: change.bonds. -/
namespace Go.Proofs.Ytpjnbikkhfnjbaa
open Go Go.RowKit


theorem OwnS.setB {w w' : World} {B n : Nat} {vk vb vb' : Value} {s : Scm} {xs : List Value} {bs' : List Bnd} (h : OwnS w B vk vb s xs) (hn : n = bs'.length) (hb : Own w' B 47 5 vb' n (bs'.flatMap Bnd.enc)) (hk : ∀ x ∈ bs', x.ok)
    (h1 : Same 35 w w') (h2 : Same 9 w w') (h3 : Same 31 w w') : OwnS w' B vk vb' ⟨s.kinds, bs'⟩ xs := by
  subst hn
  exact ⟨h.n.same h1, h.o.same h2 h3, hb, hk, h.d⟩
def rngOf (b : Bnd) (mn mx : Int) : Bnd := ⟨b.name, b.src, b.dst, mn, mx⟩
theorem set_same {α : Type} {xs : List α} {k : Nat} {v : α} (h : xs[k]? = some v) : xs.set k v = xs := by
  apply List.ext_getElem?
  intro j
  rw [List.getElem?_set]
  split
  · rename_i e; subst e; split
    · exact h.symm
    · rename_i e; rw [List.getElem?_eq_none (by omega)] at h; cases h
  · rfl
theorem bnd_rng {l : List Bnd} {i : Nat} {d : Bnd} (hd : l[i]? = some d) (mn mx : Int) : ((l.flatMap Bnd.enc).set (i * 5 + 3) (.int .i64 mn)).set (i * 5 + 4) (.int .i64 mx) = (l.set i (rngOf d mn mx)).flatMap Bnd.enc := by
  rw [← flat_set Bnd.enc_len l i (rngOf d mn mx) (List.getElem?_eq_some_iff.1 hd).1]
  show _ = ((((((l.flatMap Bnd.enc).set (i * 5) (.string d.name)).set (i * 5 + 1) (.string d.src)).set (i * 5 + 1 + 1) (.string d.dst)).set (i * 5 + 1 + 1 + 1) (.int .i64 mn)).set (i * 5 + 1 + 1 + 1 + 1) (.int .i64 mx))
  rw [set_same (k := i * 5) (v := .string d.name) (flat_get (j := 0) Bnd.enc_len hd rfl), set_same (k := i * 5 + 1) (v := .string d.src) (flat_get (j := 1) Bnd.enc_len hd rfl), set_same (k := i * 5 + 1 + 1) (v := .string d.dst) (flat_get (j := 2) Bnd.enc_len hd rfl)]
def bondsE (s : Scm) (c : Chg) : Int := if bFind s.bonds c.name < 0 then 5 else 0
def bondsS (s : Scm) (c : Chg) : Scm := match s.bonds[(bFind s.bonds c.name).toNat]? with
  | some b => ⟨s.kinds, if c.what = 6 then s.bonds.take (bFind s.bonds c.name).toNat ++ s.bonds.drop ((bFind s.bonds c.name).toNat + 1) else s.bonds.set (bFind s.bonds c.name).toNat (rngOf b c.bond.mn c.bond.mx)⟩
  | none => s
theorem bFind_cases (l : List Bnd) (nm : ByteArray) : bFind l nm < 0 ∨ ∃ (i : Nat) (d : Bnd), bFind l nm = i ∧ l[i]? = some d := by
  rcases Int.lt_or_le (bFind l nm) 0 with h | h
  · exact .inl h
  · obtain ⟨k, d, h1, h2, _⟩ := idxI_nonneg h
    exact .inr ⟨k, d, h1, h2⟩
end Go.Proofs.Ytpjnbikkhfnjbaa
