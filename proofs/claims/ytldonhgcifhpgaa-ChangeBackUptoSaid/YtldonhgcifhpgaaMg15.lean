/- Parts: ChA, ChP, ChB. -/
import Derived.Test.YtldonhgcifhpgaaMg14
import Derived.Deep.RegionLaw
/- Contracts: change.field, change.add. -/
namespace Go.Proofs.Ytldonhgcifhpgaa
open Go Go.RowKit


def cpos (fs : List Fld) (nm : ByteArray) : Nat := lowI (fldC nm) fs
def chas (fs : List Fld) (nm : ByteArray) : Bool := eqAt (fldC nm) fs (cpos fs nm)
theorem cfield1_any (d : Fld) (name : ByteArray) (w : World) :
    Calls Try.prog 147 #[.agg #[.string d.name, .int .i64 d.ty, .bool d.must, .bool d.key], .string name] w fun e w' => e = .returned (.int .i64 (cmpS d.name name)) ∧ Below w.heap.size w w' := by
  go_enter Try.func147, Try.ntmps147
  go_wp2_with (go_at_call 81; refine (scmp_any _ _ _).mono ?_; rintro e w' ⟨rfl, rfl⟩)
  go_ret
  exact ⟨rfl, (Below.refl _ _).alloc (Nat.le_refl _) _⟩
theorem cfield_any (knm : ByteArray) (fs : List Fld) (nm : ByteArray) (A : Option Addr) (n c : Nat) (vf : Value) (w : World) (hv : Sl fldL w vf fs) (hc : chain fldLt fs = true) (hl : fs.length ≤ 1000) :
    Calls Try.prog 120 #[.agg #[.string knm, .slice A n c, vf], .string nm] w fun e w' => e = .returned (.tuple #[.int .i64 (cpos fs nm), .bool (chas fs nm)]) ∧ Below w.heap.size w w' := by
  have hb0 : Below w.heap.size w (w.alloc (.cells #[.string knm, .slice A n c, vf] 29)) := (Below.refl _ _).alloc (Nat.le_refl _) _
  have hcall := bs_fld 147 #[] (by intro args w; kernel_rfl) (.string nm) (fldC nm) fs _ _ (hv.below hb0) (fun x u wx _ hu => by obtain ⟨rfl, _⟩ := hu; exact cfield1_any x nm wx) (cpos fs nm) hl (lowI_le _ _)
    (fun i d h hi => low_lt (c := fldC nm) h hi) (fun i d h hi => low_ge (c := fldC nm) hc (fldC_mono nm) h hi)
  obtain ⟨A', c', rfl, _, _⟩ := hv.form
  have HE : Hid (chas fs nm = eqAt (fldC nm) fs (cpos fs nm)) := rfl
  clear hv hc
  generalize eqAt (fldC nm) fs (cpos fs nm) = B at hcall HE
  generalize cpos fs nm = K at hcall HE ⊢
  go_enter Try.func120, Try.ntmps120
  go_wp2_with (go_at_call 146; refine hcall.mono ?_; rintro e w' ⟨rfl, hb⟩)
  go_ret2
  exact ⟨by rw [HE.out]; rfl, hb0.trans (hb.mono hb0.size)⟩
theorem OwnKnds.get {w : World} {B : Nat} : ∀ {l : List Knd} {xs : List Value} {i : Nat} {d : Knd}, OwnKnds w B l xs → l[i]? = some d →
    ∃ u x, xs[i * 3]? = some (.string d.name) ∧ xs[i * 3 + 1]? = some u ∧ xs[i * 3 + 2]? = some x ∧ Sm d.name ∧ (∀ p ∈ d.ofs, Sm p) ∧ Own w B 9 1 u d.ofs.length (d.ofs.map Value.string) ∧ (∀ p ∈ d.fields, p.ok) ∧ Own w B 33 4 x d.fields.length (d.fields.flatMap Fld.enc)
  | [], xs, i, d, h, hi => by simp at hi
  | e :: l, xs, 0, d, h, hi => by
    simp at hi
    subst hi
    obtain ⟨u, x, ys, rfl, a1, a2, a3, a4, a5, _⟩ := h
    exact ⟨u, x, rfl, rfl, rfl, a1, a2, a3, a4, a5⟩
  | e :: l, xs, i + 1, d, h, hi => by
    obtain ⟨u, x, ys, rfl, _, _, _, _, _, a6⟩ := h
    obtain ⟨u', x', b1, b2, b3, hr⟩ := OwnKnds.get a6 (by simpa using hi)
    have e1 : (i + 1) * 3 = i * 3 + 1 + 1 + 1 := by omega
    have e2 : (i + 1) * 3 + 1 = i * 3 + 1 + 1 + 1 + 1 := by omega
    have e3 : (i + 1) * 3 + 2 = i * 3 + 2 + 1 + 1 + 1 := by omega
    exact ⟨u', x', by rw [e1]; exact b1, by rw [e2]; exact b2, by rw [e3]; exact b3, hr⟩
/-- Another row of fields in the place of one: what is read of the other rows lies where it lay. -/
theorem OwnKnds.put {w w' : World} {B : Nat} {fs : List Fld} {v : Value} (h1 : Same 9 w w') (hk : ∀ p ∈ fs, p.ok) (ho : Own w' B 33 4 v fs.length (fs.flatMap Fld.enc)) :
    ∀ {l : List Knd} {xs : List Value} {i : Nat} {d : Knd}, OwnKnds w B l xs → l[i]? = some d → (∀ j e x n ys, j ≠ i → l[j]? = some e → xs[j * 3 + 2]? = some x → Own w B 33 4 x n ys → Own w' B 33 4 x n ys) →
    OwnKnds w' B (l.set i ⟨d.name, d.ofs, fs⟩) (xs.set (i * 3 + 2) v)
  | [], xs, i, d, h, hi, _ => by simp at hi
  | e :: l, xs, 0, d, h, hi, hoth => by
    simp at hi
    subst hi
    obtain ⟨u, x, ys, rfl, a1, a2, a3, a4, a5, a6⟩ := h
    refine ⟨u, v, ys, rfl, a1, a2, a3.same h1, hk, ho, ?_⟩
    have : ∀ {l : List Knd} {ys : List Value}, OwnKnds w B l ys → (∀ j e x n zs, l[j]? = some e → ys[j * 3 + 2]? = some x → Own w B 33 4 x n zs → Own w' B 33 4 x n zs) → OwnKnds w' B l ys := by
      intro l
      induction l with
      | nil => intro ys h _; exact h
      | cons e l ih =>
        intro ys h hh
        obtain ⟨u, x, zs, rfl, b1, b2, b3, b4, b5, b6⟩ := h
        exact ⟨u, x, zs, rfl, b1, b2, b3.same h1, b4, hh 0 e x _ _ rfl rfl b5, ih b6 (fun j e' x' n zs' hj hx => hh (j + 1) e' x' n zs' (by simpa using hj) (by rw [show (j + 1) * 3 + 2 = j * 3 + 2 + 1 + 1 + 1 by omega]; exact hx))⟩
    exact this a6 (fun j e' x' n zs' hj hx => hoth (j + 1) e' x' n zs' (by omega) (by simpa using hj) (by rw [show (j + 1) * 3 + 2 = j * 3 + 2 + 1 + 1 + 1 by omega]; exact hx))
  | e :: l, xs, i + 1, d, h, hi, hoth => by
    obtain ⟨u, x, ys, rfl, a1, a2, a3, a4, a5, a6⟩ := h
    have e3 : (i + 1) * 3 + 2 = i * 3 + 2 + 1 + 1 + 1 := by omega
    rw [e3]
    exact ⟨u, x, ys.set (i * 3 + 2) v, rfl, a1, a2, a3.same h1, a4, hoth 0 e x _ _ (by omega) rfl rfl a5, OwnKnds.put h1 hk ho a6 (by simpa using hi) (fun j e' x' n zs' hj hx hxx => hoth (j + 1) e' x' n zs' (by omega) (by simpa using hx) (by rw [show (j + 1) * 3 + 2 = j * 3 + 2 + 1 + 1 + 1 by omega]; exact hxx))⟩
end Go.Proofs.Ytldonhgcifhpgaa

/- Plain: the fields of one kind of an owned schema are others. -/
namespace Go.Proofs.Ytldonhgcifhpgaa
open Go Go.RowKit

def setF (s : Scm) (i : Nat) (d : Knd) (fs : List Fld) : Scm := ⟨s.kinds.set i ⟨d.name, d.ofs, fs⟩, s.bonds⟩
theorem field_put {Wx W5 : World} {B gb o ck i : Nat} {vb x u5 : Value} {s : Scm} {d : Knd} {xs : List Value} {fs : List Fld}
    (hS : OwnS Wx B (.slice (some ⟨gb, o, none⟩) s.kinds.length ck) vb s xs) (hd : s.kinds[i]? = some d) (hx : xs[i * 3 + 2]? = some x)
    (ho : Own W5 B 33 4 u5 fs.length (fs.flatMap Fld.enc)) (hg : Wx.grownBy W5 x.ownBlock) (hat : u5.ownBlock = x.ownBlock ∨ ∃ k, u5.ownBlock = some k ∧ Wx.heap.size ≤ k) (hok : ∀ p ∈ fs, p.ok) :
    OwnS (W5.setCell ⟨gb, o + i * 3 + 2, none⟩ u5) B (.slice (some ⟨gb, o, none⟩) s.kinds.length ck) vb (setF s i d fs) (xs.set (i * 3 + 2) u5) ∧
      (∀ T, 33 ≠ T → 29 ≠ T → Same T Wx (W5.setCell ⟨gb, o + i * 3 + 2, none⟩ u5)) ∧ W5.frozen? ⟨gb, o + i * 3 + 2, none⟩ = false ∧ W5.cell? ⟨gb, o + i * 3 + 2, none⟩ = some x ∧ B ≤ gb := by
  obtain ⟨_, x', _, _, k2, _, _, _, _, ox⟩ := hS.o.get hd
  obtain rfl := Option.some.inj (hx.symm.trans k2)
  have hil := (List.getElem?_eq_some_iff.1 hd).1
  have hSk : ∀ T, 33 ≠ T → Same T Wx W5 := fun T hT => Same.grown ox hT hg
  have n5 := hS.n.same (hSk _ (by decide))
  have hset : ∀ T, 29 ≠ T → Same T W5 (W5.setCell ⟨gb, o + i * 3 + 2, none⟩ u5) := fun T hT => Same.cellOf n5 hT _ _
  have hdist : ∀ (j : Nat) (y : Value) (b : Nat), j ≠ i → xs[j * 3 + 2]? = some y → y.ownBlock = some b → x.ownBlock ≠ some b := fun j y b hji hy hb hxb => by
    rcases Nat.lt_or_ge j i with h | h
    · exact hS.d j i y x b h hy hx hb hxb
    · exact hS.d i j x y b (by omega) hx hy hxb hb
  refine ⟨⟨?_, ?_, (hS.b.same (hSk _ (by decide))).same (hset _ (by decide)), hS.k, hS.d.put fun j y b hji hy hb => ?_⟩, fun T h1 h2 => (hSk T h1).trans (hset T h2), n5.frozen rfl _, n5.cell (j := i * 3 + 2) rfl hx, (n5.lt gb rfl).1⟩
  · have := n5.store (i * 3 + 2) (by omega) u5
    show Own _ B 29 3 _ (s.kinds.set i ⟨d.name, d.ofs, fs⟩).length _
    rw [List.length_set]
    exact this
  · refine (OwnKnds.put (hSk _ (by decide)) hok ho hS.o hd (fun j e y n ys hji _ hy hoy => ?_)).same (hset _ (by decide)) (hset _ (by decide))
    refine hoy.grown hg ?_
    cases hyb : y.ownBlock with
    | none => exact .inl rfl
    | some b => exact .inr (fun e => hdist j y b hji hy hyb e.symm)
  · rcases hat with h | ⟨k, h, hk⟩
    · rw [h]; exact hdist j y b hji hy hb
    · rw [h]
      intro e
      injection e with e
      subst e
      have := hS.o.flt j y _ hy hb
      omega
end Go.Proofs.Ytldonhgcifhpgaa

/- Contract: change.add. -/
namespace Go.Proofs.Ytldonhgcifhpgaa
open Go Go.RowKit


def addE (fs : List Fld) (f : Fld) (v : Val) : Int :=
  if chas fs f.name then 7 else if f.key = true ∨ (f.must = true ∧ v.ty = 0) then 3 else if v.ty = 0 then 0 else if valE v = 0 then (if v.ty = f.ty then 0 else 8) else valE v
def addF (fs : List Fld) (f : Fld) : List Fld := fs.take (cpos fs f.name) ++ f :: fs.drop (cpos fs f.name)
/-- What comes of a change of one kind's fields. -/
def RetKF (B : Nat) (vk vb : Value) (s : Scm) (err : Int) (w : World) (e : Ending) (w' : World) : Prop :=
  e = .returned (errV err) ∧ (err = 0 → ∃ xs, OwnS w' B vk vb s xs) ∧ Below B w w' ∧ Same 25 w w' ∧ w.heap.size ≤ w'.heap.size
set_option maxRecDepth 100000 in
set_option maxHeartbeats 8000000 in
theorem cadd_any (s : Scm) (i : Nat) (d : Knd) (f : Fld) (v : Val) (gb o ck : Nat) (vb : Value) (xs : List Value) (B : Nat) (w : World) (hB : B ≤ w.heap.size) (hS : OwnS w B (.slice (some ⟨gb, o, none⟩) s.kinds.length ck) vb s xs) (hd : s.kinds[i]? = some d)
    (hc : chain fldLt d.fields = true) (hl : d.fields.length ≤ 1000) (hf : f.ok) (hsv : v.ok) :
    Calls Try.prog 118 #[.pointer (some ⟨gb, o + i * 3, none⟩), .agg #[.string f.name, .int .i64 f.ty, .bool f.must, .bool f.key], .agg #[.int .i64 v.ty, .int .i64 v.n, .string v.s]] w (RetKF B (.slice (some ⟨gb, o, none⟩) s.kinds.length ck) vb (setF s i d (addF d.fields f)) (addE d.fields f v) w) := by
  obtain ⟨W0, hW0⟩ : ∃ W0, W0 = (w.alloc (.cells #[.string f.name, .int .i64 f.ty, .bool f.must, .bool f.key] 33)).alloc (.cells #[.int .i64 v.ty, .int .i64 v.n, .string v.s] 35) := ⟨_, rfl⟩
  have hb0 : Below w.heap.size w W0 := by rw [hW0]; exact ((Below.refl _ _).alloc (Nat.le_refl _) _).alloc (by simp) _
  have g0 : W0.heap[w.heap.size]? = some (.cells #[.string f.name, .int .i64 f.ty, .bool f.must, .bool f.key] 33 (0, 0)) := by rw [hW0, Below.heap_alloc _ _ _ (by simp)]; exact heap_alloc_new _ _
  have g1 : W0.heap[w.heap.size + 1]? = some (.cells #[.int .i64 v.ty, .int .i64 v.n, .string v.s] 35 (0, 0)) := by
    have := heap_alloc_new (w.alloc (.cells #[.string f.name, .int .i64 f.ty, .bool f.must, .bool f.key] 33)) (.cells #[.int .i64 v.ty, .int .i64 v.n, .string v.s] 35); rw [hW0]; simpa using this
  have hsz : W0.heap.size = w.heap.size + 2 := by rw [hW0]; simp
  have hW0' := hW0.symm
  have hS0 := hS.below hb0
  obtain ⟨u, x, k0, k1, k2, hnm, hof, ou, hfo, ox⟩ := hS0.o.get hd
  have c0 : W0.cell? ⟨gb, o + i * 3, none⟩ = some (.string d.name) := hS0.n.cell rfl k0
  have c1 : W0.cell? ⟨gb, o + i * 3 + 1, none⟩ = some u := hS0.n.cell (j := i * 3 + 1) rfl k1
  have c2 : W0.cell? ⟨gb, o + i * 3 + 2, none⟩ = some x := hS0.n.cell (j := i * 3 + 2) rfl k2
  obtain ⟨Au, cu, rfl, _, _⟩ := ou.form
  obtain ⟨Ax, cx, rfl, _, _⟩ := ox.form
  have x0 := block_cell g0 0
  have x1 := block_cell g0 1
  have x2 := block_cell g0 2
  have x3 := block_cell g0 3
  have y0 := block_cell g1 0
  have y1 := block_cell g1 1
  have y2 := block_cell g1 2
  have HS := Lib.hid hS0
  have HD := Lib.hid hd
  have HSL := Lib.hid (show Sl fldL W0 (.slice Ax d.fields.length cx) d.fields from ox.flds hfo)
  have HC := Lib.hid hc
  have HADD : Hid (addE d.fields f v = if chas d.fields f.name then 7 else if f.key = true ∨ (f.must = true ∧ v.ty = 0) then 3 else if v.ty = 0 then 0 else if valE v = 0 then (if v.ty = f.ty then 0 else 8) else valE v) := rfl
  have HK2 := Lib.hid k2
  have HAF : Hid (addF d.fields f = d.fields.take (cpos d.fields f.name) ++ f :: d.fields.drop (cpos d.fields f.name)) := rfl
  have HAL : Hid ((addF d.fields f).length = d.fields.length + 1) := by
    have := lowI_le (fldC f.name) d.fields
    unfold Hid addF cpos; simp; omega
  have HAOK : Hid ((∀ p ∈ d.fields, p.ok) → ∀ p ∈ addF d.fields f, p.ok) := fun h p hp => by
    unfold addF at hp
    rcases List.mem_append.1 hp with hp | hp
    · exact h p (List.mem_of_mem_take hp)
    · rcases List.mem_cons.1 hp with rfl | hp
      · exact hf
      · exact h p (List.mem_of_mem_drop hp)
  clear hS hS0 hd hc hW0 ou ox k0 k1 k2 hof hnm hfo
  go_enter Try.func118, Try.ntmps118
  go_wp2_with fail
  refine wp_mid_k 5 _ rfl rfl (by kernel_rfl) (by kernel_rfl) ?_
  simp only [List.take_succ_cons, List.take_zero, List.drop_succ_cons, List.drop_zero]
  repeat (go_big_quiet_step (fail))
  refine wpQuiet_nil ?_
  intro _ hw'
  obtain ⟨nq, hw''⟩ := hw'
  subst hw''
  intro K hK
  have hcf := cfield_any d.name d.fields f.name Au d.ofs.length cu (.slice Ax d.fields.length cx) (W0.drewN nq) (HSL.out.below (below_drewN (Below.refl _ _) nq)) HC.out hl
  generalize hQ : chas d.fields f.name = q at *
  generalize hKp : cpos d.fields f.name = Kp at *
  go_wp2_with fail
  refine hcf.mono ?_
  clear hcf
  rintro e w1 ⟨rfl, hb1⟩
  have hb01 := (below_drewN (Below.refl W0.heap.size W0) nq).trans hb1
  refine hK _ _ ?_
  repeat (go_big_quiet_step (fail))
  refine wpQuiet_nil ?_
  intro _ hw'
  obtain ⟨nq2, hw''⟩ := hw'
  subst hw''
  clear hK
  have hbW := below_drewN hb01 nq2
  generalize w1.drewN nq2 = W1 at *
  have x0 := cell_below hbW x0
  have x1 := cell_below hbW x1
  have x2 := cell_below hbW x2
  have x3 := cell_below hbW x3
  have y0 := cell_below hbW y0
  have y1 := cell_below hbW y1
  have y2 := cell_below hbW y2
  have c2 := cell_below hbW c2
  have HS1 := Lib.hid (HS.out.below hbW)
  have hbw := hb0.trans (hbW.mono hb0.size)
  have hws := hbw.size
  have HB := Lib.hid (hbw.mono hB)
  have HSM : Hid (Same 25 w W1) := Same.below hbw
  have hKl : Kp ≤ d.fields.length := by rw [← hKp]; exact lowI_le _ _
  clear hb1 hb01 hbW hQ HSL HS hb0 c0 c1 g0 g1
  cases q with
  | true =>
    have HF : Hid (addE d.fields f v = 7) := by unfold Hid; rw [HADD.out]; rfl
    clear HADD
    go_wp2_with fail
    go_ret
    exact ⟨by rw [HF.out]; rfl, (fun h => by rw [HF.out] at h; omega), HB.out, HSM.out, hws⟩
  | false =>
    have HA2 : Hid (addE d.fields f v = if f.key = true ∨ (f.must = true ∧ v.ty = 0) then 3 else if v.ty = 0 then 0 else if valE v = 0 then (if v.ty = f.ty then 0 else 8) else valE v) := by unfold Hid; rw [HADD.out]; rfl
    clear HADD
    cases hk : f.key with
    | true =>
      have HF : Hid (addE d.fields f v = 3) := by unfold Hid; rw [HA2.out, if_pos (.inl hk)]
      rw [hk] at x3
      clear HA2
      go_wp2_with fail
      go_ret
      exact ⟨by rw [HF.out]; rfl, (fun h => by rw [HF.out] at h; omega), HB.out, HSM.out, hws⟩
    | false =>
      rw [hk] at x3
      by_cases hm : f.must = true ∧ v.ty = 0
      · have HF : Hid (addE d.fields f v = 3) := by unfold Hid; rw [HA2.out, if_pos (.inr hm)]
        obtain ⟨hm1, hm2⟩ := hm
        rw [hm1] at x2
        rw [hm2] at y0
        clear HA2
        go_wp2_with fail
        go_ret
        exact ⟨by rw [HF.out]; rfl, (fun h => by rw [HF.out] at h; omega), HB.out, HSM.out, hws⟩
      · have HA3 : Hid (addE d.fields f v = if v.ty = 0 then 0 else if valE v = 0 then (if v.ty = f.ty then 0 else 8) else valE v) := by
          unfold Hid; rw [HA2.out, if_neg (by rw [hk]; simpa using hm)]
        clear HA2
        by_cases hz : v.ty = 0
        · have HF : Hid (addE d.fields f v = 0) := by unfold Hid; rw [HA3.out, if_pos hz]
          have hmf : f.must = false := by
            cases h : f.must with
            | false => rfl
            | true => exact absurd ⟨h, hz⟩ hm
          have HENC : Hid (f.enc = [.string f.name, .int .i64 f.ty, .bool false, .bool false]) := by unfold Hid Fld.enc; rw [hk, hmf]
          rw [hz] at y0
          rw [hmf] at x2
          clear HA3 hm hk hz hmf
          have hxb : Below W1.heap.size W1 (W1.alloc (.cells #[.string f.name, .int .i64 f.ty, .bool false, .bool false] 33)) := (Below.refl _ _).alloc (Nat.le_refl _) _
          have hxd := hxb.drew
          have hSx := HS1.out.below hxd
          obtain ⟨_, _, _, _, k2x, _, _, _, hfo, ox⟩ := hSx.o.get HD.out
          obtain rfl := Option.some.inj (HK2.out.symm.trans k2x)
          have hil := ins_fld_at (W1.alloc (.cells #[.string f.name, .int .i64 f.ty, .bool false, .bool false] 33)).drew B (.slice Ax d.fields.length cx) d.fields.length (d.fields.flatMap Fld.enc) ox Kp hKl W1.heap.size f.enc rfl (by rw [HENC.out]; exact heap_alloc_new W1 _) f.enc_one (oneCell_flat Fld.enc_one d.fields)
            (fun e => by
              obtain ⟨_, _, _, _, k2y, _, _, _, _, oy⟩ := HS1.out.o.get HD.out
              obtain rfl := Option.some.inj (HK2.out.symm.trans k2y)
              have := (oy.lt _ e).2; omega) (by have := hxd.size; omega) (by omega)
          have hfi := flat_insert Fld.enc_len d.fields Kp hKl f
          rw [hfi, ← HAF.out] at hil
          have HFO := Lib.hid hfo
          have HSX := Lib.hid hSx
          have HBX := Lib.hid hxd
          have c2x := cell_below hxb c2
          have x0x := cell_below hxb x0
          have x1x := cell_below hxb x1
          have x2x := cell_below hxb x2
          have x3x := cell_below hxb x3
          have HOX := Lib.hid (ox.lt)
          clear hfi hSx ox k2x hfo
          go_wp2_with fail
          go_region_law
            (first
              | (refine step_callx rfl 145 #[.slice Ax d.fields.length cx, .int .i64 Kp, .slice (some ⟨W1.heap.size, 0, none⟩) 1 1] (by kernel_rfl) hil ?_
                 rintro e w5 ⟨u5, rfl, ho5, hg5, hat5⟩
                 refine ⟨_, rfl, ?_⟩
                 have hfin := field_put HSX.out HD.out HK2.out (by rw [HAL.out]; exact ho5) hg5 hat5 (HAOK.out HFO.out)
                 have hfr := hfin.2.2.1
                 have hcl := hfin.2.2.2.1
                 obtain ⟨A5, c5, rfl, _, _⟩ := ho5.form))
          all_goals
            have hbw5 : Below B w w5 := (HB.out.trans (HBX.out.mono (by omega))).grown hg5 (by have := HBX.out.size; omega) (fun k e => (HOX.out k e).1)
            have hs5 := hg5.size
            have hs6 := HBX.out.size
            have hsm := HSM.out.trans ((Same.below HBX.out).trans (hfin.2.1 25 (by decide) (by decide)))
            have hgB := hfin.2.2.2.2
            have HFIN := Lib.hid hfin.1
            clear hfin ho5 hg5 hat5 hil c2x x0x x1x x2x x3x
            go_wp2_with fail
            go_ret
            exact ⟨by rw [HF.out]; rfl, (fun _ => ⟨_, HFIN.out⟩), hbw5.setCell (p := ⟨gb, o + i * 3 + 2, none⟩) hgB _, hsm, by simp [World.setCell]; omega⟩
        · have hzb : (v.ty == 0) = false := beq_eq_false_iff_ne.2 hz
          have hzn : (v.ty != 0) = true := bne_iff_ne.2 hz
          have HA4 : Hid (addE d.fields f v = if valE v = 0 then (if v.ty = f.ty then 0 else 8) else valE v) := by unfold Hid; rw [HA3.out, if_neg hz]
          have hvc := check_any v hsv W1
          cases hmf : f.must with
          | false =>
            have HENC : Hid (f.enc = [.string f.name, .int .i64 f.ty, .bool false, .bool false]) := by unfold Hid Fld.enc; rw [hk, hmf]
            rw [hmf] at x2
            clear HA3 hm hk hmf
            go_wp2_with fail
            refine hvc.mono ?_
            clear hvc
            rintro e W2 ⟨rfl, hb2⟩
            have HB2 : Hid (Below B w W2) := HB.out.trans (hb2.mono (by omega))
            have HSM2 : Hid (Same 25 w W2) := HSM.out.trans (Same.below hb2)
            have HS2 := Lib.hid (HS1.out.below hb2)
            have x0 := cell_below hb2 x0
            have x1 := cell_below hb2 x1
            have x2 := cell_below hb2 x2
            have x3 := cell_below hb2 x3
            have y0 := cell_below hb2 y0
            have c2 := cell_below hb2 c2
            have hws2 : w.heap.size ≤ W2.heap.size := by have := hb2.size; omega
            by_cases hve : valE v = 0
            case neg =>
              have HF : Hid (errV (addE d.fields f v) = .iface 98 (.int .i64 (valE v)) ∧ ¬ addE d.fields f v = 0) := by
                have h0 : addE d.fields f v = valE v := by rw [HA4.out, if_neg hve]
                exact ⟨by rw [h0]; exact errV_some hve, by rw [h0]; exact hve⟩
              rw [errV_some hve]
              clear HA4 hve
              go_wp2_with fail
              go_ret
              exact ⟨by rw [HF.out.1]; rfl, (fun h => absurd h HF.out.2), HB2.out, HSM2.out, hws2⟩
            have HA5 : Hid (addE d.fields f v = if v.ty = f.ty then 0 else 8) := by unfold Hid; rw [HA4.out, if_pos hve]
            rw [errV_zero hve]
            clear HA4 hve
            by_cases ht : v.ty = f.ty
            · have HF : Hid (addE d.fields f v = 0) := by unfold Hid; rw [HA5.out, if_pos ht]
              rw [ht] at y0
              clear HA5 ht
              have hxb : Below W2.heap.size W2 (W2.alloc (.cells #[.string f.name, .int .i64 f.ty, .bool false, .bool false] 33)) := (Below.refl _ _).alloc (Nat.le_refl _) _
              have hxd := hxb.drew
              have hSx := HS2.out.below hxd
              obtain ⟨_, _, _, _, k2x, _, _, _, hfo, ox⟩ := hSx.o.get HD.out
              obtain rfl := Option.some.inj (HK2.out.symm.trans k2x)
              have hil := ins_fld_at (W2.alloc (.cells #[.string f.name, .int .i64 f.ty, .bool false, .bool false] 33)).drew B (.slice Ax d.fields.length cx) d.fields.length (d.fields.flatMap Fld.enc) ox Kp hKl W2.heap.size f.enc rfl (by rw [HENC.out]; exact heap_alloc_new W2 _) f.enc_one (oneCell_flat Fld.enc_one d.fields)
                (fun e => by
                  obtain ⟨_, _, _, _, k2y, _, _, _, _, oy⟩ := HS2.out.o.get HD.out
                  obtain rfl := Option.some.inj (HK2.out.symm.trans k2y)
                  have := (oy.lt _ e).2; omega) (by have := hxd.size; omega) (by omega)
              have hfi := flat_insert Fld.enc_len d.fields Kp hKl f
              rw [hfi, ← HAF.out] at hil
              have HFO := Lib.hid hfo
              have HSX := Lib.hid hSx
              have HBX := Lib.hid hxd
              have c2x := cell_below hxb c2
              have x0x := cell_below hxb x0
              have x1x := cell_below hxb x1
              have x2x := cell_below hxb x2
              have x3x := cell_below hxb x3
              have HOX := Lib.hid (ox.lt)
              clear hfi hSx ox k2x hfo
              go_wp2_with fail
              go_region_law
                (first
                  | (refine step_callx rfl 145 #[.slice Ax d.fields.length cx, .int .i64 Kp, .slice (some ⟨W2.heap.size, 0, none⟩) 1 1] (by kernel_rfl) hil ?_
                     rintro e w5 ⟨u5, rfl, ho5, hg5, hat5⟩
                     refine ⟨_, rfl, ?_⟩
                     have hfin := field_put HSX.out HD.out HK2.out (by rw [HAL.out]; exact ho5) hg5 hat5 (HAOK.out HFO.out)
                     have hfr := hfin.2.2.1
                     have hcl := hfin.2.2.2.1
                     obtain ⟨A5, c5, rfl, _, _⟩ := ho5.form))
              all_goals
                have hbw5 : Below B w w5 := (HB2.out.trans (HBX.out.mono (by omega))).grown hg5 (by have := HBX.out.size; omega) (fun k e => (HOX.out k e).1)
                have hs5 := hg5.size
                have hs6 := HBX.out.size
                have hsm := HSM2.out.trans ((Same.below HBX.out).trans (hfin.2.1 25 (by decide) (by decide)))
                have hgB := hfin.2.2.2.2
                have HFIN := Lib.hid hfin.1
                clear hfin ho5 hg5 hat5 hil c2x x0x x1x x2x x3x
                go_wp2_with fail
                go_ret
                exact ⟨by rw [HF.out]; rfl, (fun _ => ⟨_, HFIN.out⟩), hbw5.setCell (p := ⟨gb, o + i * 3 + 2, none⟩) hgB _, hsm, by simp [World.setCell]; omega⟩
            · have HF : Hid (addE d.fields f v = 8) := by unfold Hid; rw [HA5.out, if_neg ht]
              have htn : (v.ty != f.ty) = true := bne_iff_ne.2 ht
              clear HA5
              go_wp2_with fail
              go_ret
              exact ⟨by rw [HF.out]; rfl, (fun h => by rw [HF.out] at h; omega), HB2.out, HSM2.out, hws2⟩
          | true =>
            have HENC : Hid (f.enc = [.string f.name, .int .i64 f.ty, .bool true, .bool false]) := by unfold Hid Fld.enc; rw [hk, hmf]
            rw [hmf] at x2
            clear HA3 hm hk hmf
            go_wp2_with fail
            refine hvc.mono ?_
            clear hvc
            rintro e W2 ⟨rfl, hb2⟩
            have HB2 : Hid (Below B w W2) := HB.out.trans (hb2.mono (by omega))
            have HSM2 : Hid (Same 25 w W2) := HSM.out.trans (Same.below hb2)
            have HS2 := Lib.hid (HS1.out.below hb2)
            have x0 := cell_below hb2 x0
            have x1 := cell_below hb2 x1
            have x2 := cell_below hb2 x2
            have x3 := cell_below hb2 x3
            have y0 := cell_below hb2 y0
            have c2 := cell_below hb2 c2
            have hws2 : w.heap.size ≤ W2.heap.size := by have := hb2.size; omega
            by_cases hve : valE v = 0
            case neg =>
              have HF : Hid (errV (addE d.fields f v) = .iface 98 (.int .i64 (valE v)) ∧ ¬ addE d.fields f v = 0) := by
                have h0 : addE d.fields f v = valE v := by rw [HA4.out, if_neg hve]
                exact ⟨by rw [h0]; exact errV_some hve, by rw [h0]; exact hve⟩
              rw [errV_some hve]
              clear HA4 hve
              go_wp2_with fail
              go_ret
              exact ⟨by rw [HF.out.1]; rfl, (fun h => absurd h HF.out.2), HB2.out, HSM2.out, hws2⟩
            have HA5 : Hid (addE d.fields f v = if v.ty = f.ty then 0 else 8) := by unfold Hid; rw [HA4.out, if_pos hve]
            rw [errV_zero hve]
            clear HA4 hve
            by_cases ht : v.ty = f.ty
            · have HF : Hid (addE d.fields f v = 0) := by unfold Hid; rw [HA5.out, if_pos ht]
              rw [ht] at y0
              clear HA5 ht
              have hxb : Below W2.heap.size W2 (W2.alloc (.cells #[.string f.name, .int .i64 f.ty, .bool true, .bool false] 33)) := (Below.refl _ _).alloc (Nat.le_refl _) _
              have hxd := hxb.drew
              have hSx := HS2.out.below hxd
              obtain ⟨_, _, _, _, k2x, _, _, _, hfo, ox⟩ := hSx.o.get HD.out
              obtain rfl := Option.some.inj (HK2.out.symm.trans k2x)
              have hil := ins_fld_at (W2.alloc (.cells #[.string f.name, .int .i64 f.ty, .bool true, .bool false] 33)).drew B (.slice Ax d.fields.length cx) d.fields.length (d.fields.flatMap Fld.enc) ox Kp hKl W2.heap.size f.enc rfl (by rw [HENC.out]; exact heap_alloc_new W2 _) f.enc_one (oneCell_flat Fld.enc_one d.fields)
                (fun e => by
                  obtain ⟨_, _, _, _, k2y, _, _, _, _, oy⟩ := HS2.out.o.get HD.out
                  obtain rfl := Option.some.inj (HK2.out.symm.trans k2y)
                  have := (oy.lt _ e).2; omega) (by have := hxd.size; omega) (by omega)
              have hfi := flat_insert Fld.enc_len d.fields Kp hKl f
              rw [hfi, ← HAF.out] at hil
              have HFO := Lib.hid hfo
              have HSX := Lib.hid hSx
              have HBX := Lib.hid hxd
              have c2x := cell_below hxb c2
              have x0x := cell_below hxb x0
              have x1x := cell_below hxb x1
              have x2x := cell_below hxb x2
              have x3x := cell_below hxb x3
              have HOX := Lib.hid (ox.lt)
              clear hfi hSx ox k2x hfo
              go_wp2_with fail
              go_region_law
                (first
                  | (refine step_callx rfl 145 #[.slice Ax d.fields.length cx, .int .i64 Kp, .slice (some ⟨W2.heap.size, 0, none⟩) 1 1] (by kernel_rfl) hil ?_
                     rintro e w5 ⟨u5, rfl, ho5, hg5, hat5⟩
                     refine ⟨_, rfl, ?_⟩
                     have hfin := field_put HSX.out HD.out HK2.out (by rw [HAL.out]; exact ho5) hg5 hat5 (HAOK.out HFO.out)
                     have hfr := hfin.2.2.1
                     have hcl := hfin.2.2.2.1
                     obtain ⟨A5, c5, rfl, _, _⟩ := ho5.form))
              all_goals
                have hbw5 : Below B w w5 := (HB2.out.trans (HBX.out.mono (by omega))).grown hg5 (by have := HBX.out.size; omega) (fun k e => (HOX.out k e).1)
                have hs5 := hg5.size
                have hs6 := HBX.out.size
                have hsm := HSM2.out.trans ((Same.below HBX.out).trans (hfin.2.1 25 (by decide) (by decide)))
                have hgB := hfin.2.2.2.2
                have HFIN := Lib.hid hfin.1
                clear hfin ho5 hg5 hat5 hil c2x x0x x1x x2x x3x
                go_wp2_with fail
                go_ret
                exact ⟨by rw [HF.out]; rfl, (fun _ => ⟨_, HFIN.out⟩), hbw5.setCell (p := ⟨gb, o + i * 3 + 2, none⟩) hgB _, hsm, by simp [World.setCell]; omega⟩
            · have HF : Hid (addE d.fields f v = 8) := by unfold Hid; rw [HA5.out, if_neg ht]
              have htn : (v.ty != f.ty) = true := bne_iff_ne.2 ht
              clear HA5
              go_wp2_with fail
              go_ret
              exact ⟨by rw [HF.out]; rfl, (fun h => by rw [HF.out] at h; omega), HB2.out, HSM2.out, hws2⟩
end Go.Proofs.Ytldonhgcifhpgaa
