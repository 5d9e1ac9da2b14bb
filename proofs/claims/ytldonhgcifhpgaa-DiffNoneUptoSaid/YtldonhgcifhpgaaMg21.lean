/- Parts: DiffP, DifA, Qg. -/
import Derived.Test.YtldonhgcifhpgaaMg20
import Derived.Test.YtldonhgcifhpgaaMg07
import Derived.Test.YtldonhgcifhpgaaMg04
/- Plain: what of a schema is not in another one just so; which one is as wide. No condition. -/
namespace Go.Proofs.Ytldonhgcifhpgaa

def eqK (a b : Knd) : Bool := decide (a.ofs = b.ofs) && decide (a.fields = b.fields)
def lostK (l : List Knd) (k : Knd) : Bool := match l[(kFind l k.name).toNat]? with | some d => decide (kFind l k.name < 0) || !eqK k d | none => true
def lostB (l : List Bnd) (x : Bnd) : Bool := !(l.any fun y => decide (x = y))
def losesL (a b : Scm) : List ByteArray := (a.kinds.filter (lostK b.kinds)).map (·.name) ++ (a.bonds.filter (lostB b.bonds)).map (·.name)
def bothE (a b : Scm) : Int := if (scmE a).2 = 0 then (scmE b).2 else (scmE a).2
def losesR (a b : Scm) : List ByteArray := if bothE a b = 0 then losesL a b else []
def fFind (l : List Fld) (nm : ByteArray) : Int := idxI (fun f => decide (f.name = nm)) l
def okF (b : List Fld) (f : Fld) : Bool := match b[(fFind b f.name).toNat]? with | some d => !(decide (fFind b f.name < 0)) && decide (d.ty = f.ty) && !(d.must && !f.must) && !(d.key && !f.key) | none => false
def fieldsW (a b : List Fld) : Bool := a.all (okF b) && !(b.any fun f => f.must && decide (fFind a f.name < 0))
def kindW (l : List Knd) (k : Knd) : Bool := match l[(kFind l k.name).toNat]? with | some d => !(decide (kFind l k.name < 0)) && decide (k.ofs = d.ofs) && fieldsW k.fields d.fields | none => false
def bondW1 (a b : Bnd) : Bool := decide (a.src = b.src) && decide (a.dst = b.dst) && decide (b.mn ≤ a.mn) && (decide (b.mx = -1) || (!decide (a.mx = -1) && decide (a.mx ≤ b.mx)))
def bondW (l : List Bnd) (x : Bnd) : Bool := match l[(bFind l x.name).toNat]? with | some d => !(decide (bFind l x.name < 0)) && bondW1 x d | none => false
def widerB (a b : Scm) : Bool := a.kinds.all (kindW b.kinds) && a.bonds.all (bondW b.bonds) && !(b.bonds.any fun x => decide (bFind a.bonds x.name < 0) && decide (0 < x.mn))
def widerR (a b : Scm) : Bool := if bothE a b = 0 then widerB a b else false

theorem kFind_self {l : List Knd} (hw : Wf l) {i : Nat} {k : Knd} (hk : l[i]? = some k) : kFind l k.name = i := by
  exact idxI_hit (fun j x hj hx => by simpa using (hw i k hk).1 j x hj hx) hk (by simp)
/-- No two bonds of one name. -/
def BDist (l : List Bnd) : Prop := ∀ (i j : Nat) a b, j < i → l[i]? = some a → l[j]? = some b → b.name ≠ a.name
theorem ScmOk.bdist {s : Scm} (h : ScmOk s) : BDist s.bonds := fun i j a b hj hi hb =>
  bFind_neg (h.b i a hi).new b (List.mem_of_getElem? (by rw [List.getElem?_take, if_pos hj]; exact hb))
theorem bFind_self {l : List Bnd} (hd : BDist l) {i : Nat} {k : Bnd} (hk : l[i]? = some k) : bFind l k.name = i :=
  idxI_hit (fun j x hj hx => by simpa using hd i j k x hj hk hx) hk (by simp)
theorem loses_self {s : Scm} (h : ScmOk s) : losesL s s = [] := by
  unfold losesL
  have h1 : s.kinds.filter (lostK s.kinds) = [] := by
    rw [List.filter_eq_nil_iff]
    intro k hk
    obtain ⟨i, hi⟩ := List.mem_iff_getElem?.1 hk
    unfold lostK
    rw [kFind_self h.r.wf hi, Int.toNat_natCast, hi]
    simp [eqK]
  have h2 : s.bonds.filter (lostB s.bonds) = [] := by
    rw [List.filter_eq_nil_iff]
    intro b hb
    unfold lostB
    have : (s.bonds.any fun y => decide (b = y)) = true := List.any_eq_true.2 ⟨b, hb, by simp⟩
    simp [this]
  rw [h1, h2]; rfl
/-- A bond that is dropped is lost, and it is less wide. -/
theorem drop_lost {s : Scm} {nm : ByteArray} (h : cdoE s ⟨6, nm, kz, bz, fz, vz, .empty⟩ = 0) : nm ∈ losesL s (cdoS s ⟨6, nm, kz, bz, fz, vz, .empty⟩) ∧ widerB s (cdoS s ⟨6, nm, kz, bz, fz, vz, .empty⟩) = false := by
  obtain ⟨a1, a2, a3⟩ := cdoE_zero h
  have hok := scmE_zero a1
  have hd := hok.bdist
  have hE : bondsE s ⟨6, nm, kz, bz, fz, vz, .empty⟩ = 0 := by
    have e : chgE s ⟨6, nm, kz, bz, fz, vz, .empty⟩ = bondsE s ⟨6, nm, kz, bz, fz, vz, .empty⟩ := by
      unfold chgE
      rw [if_neg (by simp), if_neg (by simp), if_neg (by simp), if_pos (.inl rfl)]
    rw [← e]; exact a2
  have hn : 0 ≤ bFind s.bonds nm := by
    unfold bondsE at hE
    split at hE
    · omega
    · rename_i hx; simpa using hx
  obtain ⟨i, b, h1, h2, h3, _⟩ := bFind_pos hn
  have hil := (List.getElem?_eq_some_iff.1 h2).1
  have hS : cdoS s ⟨6, nm, kz, bz, fz, vz, .empty⟩ = ⟨s.kinds, s.bonds.take i ++ s.bonds.drop (i + 1)⟩ := by
    unfold cdoS
    rw [if_pos h]
    unfold chgS
    rw [if_neg (by simp), if_neg (by simp), if_neg (by simp), if_neg (by simp)]
    unfold bondsS
    simp only [h1, Int.toNat_natCast, h2]
    rw [if_pos trivial]
  rw [hS]
  have hno : ∀ y ∈ s.bonds.take i ++ s.bonds.drop (i + 1), y.name ≠ nm := fun y hy e => by
    rcases List.mem_append.1 hy with hm | hm
    · obtain ⟨j, hj⟩ := List.mem_iff_getElem?.1 hm
      rw [List.getElem?_take] at hj
      split at hj
      · exact hd i j b y (by assumption) h2 hj (e.trans h3.symm)
      · cases hj
    · obtain ⟨j, hj⟩ := List.mem_iff_getElem?.1 hm
      rw [List.getElem?_drop] at hj
      exact hd (i + 1 + j) i y b (by omega) hj h2 (h3.trans e.symm)
  have hb : b ∈ s.bonds := List.mem_of_getElem? h2
  refine ⟨?_, ?_⟩
  · unfold losesL
    refine List.mem_append.2 (.inr (List.mem_map.2 ⟨b, List.mem_filter.2 ⟨hb, ?_⟩, h3⟩))
    unfold lostB
    have : ((s.bonds.take i ++ s.bonds.drop (i + 1)).any fun y => decide (b = y)) = false := by
      rw [List.any_eq_false]
      intro y hy
      have := hno y hy
      simp only [decide_eq_true_eq]
      intro e
      rw [← e] at this
      exact this h3
    show (!((s.bonds.take i ++ s.bonds.drop (i + 1)).any fun y => decide (b = y))) = true
    rw [this]; rfl
  · have hf : bFind (s.bonds.take i ++ s.bonds.drop (i + 1)) b.name < 0 := by
      rcases Int.lt_or_le (bFind (s.bonds.take i ++ s.bonds.drop (i + 1)) b.name) 0 with hlt | hge
      · exact hlt
      · obtain ⟨j, y, _, hy, hny, _⟩ := bFind_pos hge
        exact absurd (hny.trans h3) (hno y (List.mem_of_getElem? hy))
    have hw : bondW (s.bonds.take i ++ s.bonds.drop (i + 1)) b = false := by
      unfold bondW
      split
      · simp [hf]
      · rfl
    have : s.bonds.all (bondW (s.bonds.take i ++ s.bonds.drop (i + 1))) = false := by
      rw [List.all_eq_false]
      exact ⟨b, hb, by simp [hw]⟩
    unfold widerB
    simp [this]
end Go.Proofs.Ytldonhgcifhpgaa

/- Contracts: slices.Equal at texts and fields, slices.Index and slices.Contains at bonds, diff.both, diff.equal, diff.wider. No condition. -/
namespace Go.Proofs.Ytldonhgcifhpgaa
open Go Go.RowKit



set_option maxHeartbeats 1000000 in
theorem eqStrs_any_q (a b : List ByteArray) (va vb : Value) (w : World) (ha : Sl strL w va a) (hb : Sl strL w vb b) : Calls Try.prog 48 #[va, vb] w fun e w' => e = .returned (.bool (decide (a = b))) ∧ ∃ m, w' = w.drewN m := by
  obtain ⟨A, c, rfl, _, hcm⟩ := ha.form
  obtain ⟨B, d, rfl, _, hdm⟩ := hb.form
  unfold maxLen at hcm hdm
  by_cases hl : a.length = b.length
  case neg =>
    have HE : Hid (decide (a = b) = false) := decide_eq_false fun e => hl (by rw [e])
    have hl' : decide ((a.length : Int) = (b.length : Int)) = false := decide_eq_false (by omega)
    have hl2 : ((a.length : Int) == (b.length : Int)) = false := by rw [beq_eq_false_iff_ne]; omega
    clear ha hb hl
    go_enter Try.func48, Try.ntmps48
    go_wp2_with fail
    go_ret
    exact ⟨by rw [HE.out]; rfl, 0, rfl⟩
  have HL := Lib.hid hl
  have hlb : a.length ≤ b.length := by omega
  rw [← hl]
  clear hl
  go_enter Try.func48, Try.ntmps48
  go_wp2_with fail
  go_loopw [13] (fun i wr => ∃ k : Nat, k ≤ a.length ∧ i = .int .i64 k ∧ Below w.heap.size w wr ∧ Hid (∃ m, wr = w.drewN m) ∧ Hid (∀ j x y, j < k → a[j]? = some x → b[j]? = some y → x = y)) (fun i _ => a.length - (intOf i).toNat)
  case atStart => exact ⟨0, Nat.zero_le _, rfl, Below.refl _ _, ⟨0, rfl⟩, fun j x y hj => absurd hj (Nat.not_lt_zero _)⟩
  case round =>
    obtain ⟨k, hk, rfl, hbr, HM, HA⟩ := hrel
    by_cases hlt : k < a.length
    · obtain ⟨x, hx⟩ : ∃ d, a[k]? = some d := ⟨_, List.getElem?_eq_getElem hlt⟩
      obtain ⟨y, hy⟩ : ∃ d, b[k]? = some d := ⟨_, List.getElem?_eq_getElem (by omega)⟩
      have hlt' : (k : Int) < (a.length : Int) := by omega
      obtain ⟨b1, o1, rfl, _, x0⟩ := str_at (ha.below hbr) hx
      obtain ⟨b2, o2, rfl, _, y0⟩ := str_at (hb.below hbr) hy
      have HX := Lib.hid hx
      have HY := Lib.hid hy
      clear hx hy
      by_cases hq : x = y
      · have HS : Hid (∀ j x y, j < k + 1 → a[j]? = some x → b[j]? = some y → x = y) := fun j p q hj hp hq2 => by
          by_cases hjk : j = k
          · subst hjk
            have e1 := HX.out.symm.trans hp
            have e2 := HY.out.symm.trans hq2
            injection e1 with e1; injection e2 with e2
            rw [← e1, ← e2]; exact hq
          · exact HA.out j p q (by omega) hp hq2
        subst hq
        clear ha hb
        go_wp2_with fail
        go_quiet (fail)
        go_wp2_with fail
        go_roundw
        case rel => exact ⟨k + 1, by omega, by go_num, below_drewN hbr _, drewN_step HM.out nq, HS⟩
        case measure => simp [intOf]; omega
      · have HE : Hid (decide (a = b) = false) := decide_eq_false fun e => by
          have e1 := HX.out
          rw [e, HY.out] at e1
          injection e1 with e1
          exact hq e1.symm
        have hqb : (x.toList == y.toList) = false := by rw [bytes_beq]; exact decide_eq_false hq
        have hqc : ¬ x.toList = y.toList := by rw [bytes_eq]; exact hq
        clear ha hb hq
        go_wp2_with fail
        go_quiet (fail)
        go_wp2_with fail
        go_ret
        exact ⟨by rw [HE.out]; rfl, drewN_step HM.out nq⟩
    · obtain rfl : k = a.length := by omega
      have HE : Hid (decide (a = b) = true) := decide_eq_true (lists_eq HL.out HA.out)
      clear ha hb
      go_wp2_with fail
      go_ret
      exact ⟨by rw [HE.out]; rfl, HM.out⟩
theorem eqStrs_any (a b : List ByteArray) (va vb : Value) (w : World) (ha : Sl strL w va a) (hb : Sl strL w vb b) : Calls Try.prog 48 #[va, vb] w fun e w' => e = .returned (.bool (decide (a = b))) ∧ Below w.heap.size w w' :=
  (eqStrs_any_q a b va vb w ha hb).mono fun _ _ ⟨h, m, hm⟩ => ⟨h, by rw [hm]; exact below_drewN (Below.refl _ _) m⟩
set_option maxHeartbeats 1000000 in
theorem eqFlds_any_q (a b : List Fld) (va vb : Value) (w : World) (ha : Sl fldL w va a) (hb : Sl fldL w vb b) : Calls Try.prog 89 #[va, vb] w fun e w' => e = .returned (.bool (decide (a = b))) ∧ ∃ m, w' = w.drewN m := by
  obtain ⟨A, c, rfl, _, hcm⟩ := ha.form
  obtain ⟨B, d, rfl, _, hdm⟩ := hb.form
  unfold maxLen at hcm hdm
  by_cases hl : a.length = b.length
  case neg =>
    have HE : Hid (decide (a = b) = false) := decide_eq_false fun e => hl (by rw [e])
    have hl' : decide ((a.length : Int) = (b.length : Int)) = false := decide_eq_false (by omega)
    have hl2 : ((a.length : Int) == (b.length : Int)) = false := by rw [beq_eq_false_iff_ne]; omega
    clear ha hb hl
    go_enter Try.func89, Try.ntmps89
    go_wp2_with fail
    go_ret
    exact ⟨by rw [HE.out]; rfl, 0, rfl⟩
  have HL := Lib.hid hl
  have hlb : a.length ≤ b.length := by omega
  rw [← hl]
  clear hl
  go_enter Try.func89, Try.ntmps89
  go_wp2_with fail
  go_loopw [13] (fun i wr => ∃ k : Nat, k ≤ a.length ∧ i = .int .i64 k ∧ Below w.heap.size w wr ∧ Hid (∃ m, wr = w.drewN m) ∧ Hid (∀ j x y, j < k → a[j]? = some x → b[j]? = some y → x = y)) (fun i _ => a.length - (intOf i).toNat)
  case atStart => exact ⟨0, Nat.zero_le _, rfl, Below.refl _ _, ⟨0, rfl⟩, fun j x y hj => absurd hj (Nat.not_lt_zero _)⟩
  case round =>
    obtain ⟨k, hk, rfl, hbr, HM, HA⟩ := hrel
    by_cases hlt : k < a.length
    · obtain ⟨x, hx⟩ : ∃ d, a[k]? = some d := ⟨_, List.getElem?_eq_getElem hlt⟩
      obtain ⟨y, hy⟩ : ∃ d, b[k]? = some d := ⟨_, List.getElem?_eq_getElem (by omega)⟩
      have hlt' : (k : Int) < (a.length : Int) := by omega
      obtain ⟨b1, o1, rfl, _, x0, x1, x2, x3⟩ := fld_at (ha.below hbr) hx
      obtain ⟨b2, o2, rfl, _, y0, y1, y2, y3⟩ := fld_at (hb.below hbr) hy
      have hneq := fld_neq x y
      have hgd := fld_guard
      have HX := Lib.hid hx
      have HY := Lib.hid hy
      clear hx hy
      by_cases hq : x = y
      · have HS : Hid (∀ j x y, j < k + 1 → a[j]? = some x → b[j]? = some y → x = y) := fun j p q hj hp hq2 => by
          by_cases hjk : j = k
          · subst hjk
            have e1 := HX.out.symm.trans hp
            have e2 := HY.out.symm.trans hq2
            injection e1 with e1; injection e2 with e2
            rw [← e1, ← e2]; exact hq
          · exact HA.out j p q (by omega) hp hq2
        rw [decide_eq_true hq] at hneq
        clear ha hb hq
        go_wp2_with fail
        go_quiet (fail)
        go_wp2_with fail
        go_roundw
        case rel => exact ⟨k + 1, by omega, by go_num, below_drewN hbr _, drewN_step HM.out nq, HS⟩
        case measure => simp [intOf]; omega
      · have HE : Hid (decide (a = b) = false) := decide_eq_false fun e => by
          have e1 := HX.out
          rw [e, HY.out] at e1
          injection e1 with e1
          exact hq e1.symm
        rw [decide_eq_false hq] at hneq
        clear ha hb hq
        go_wp2_with fail
        go_quiet (fail)
        go_wp2_with fail
        go_ret
        exact ⟨by rw [HE.out]; rfl, drewN_step HM.out nq⟩
    · obtain rfl : k = a.length := by omega
      have HE : Hid (decide (a = b) = true) := decide_eq_true (lists_eq HL.out HA.out)
      clear ha hb
      go_wp2_with fail
      go_ret
      exact ⟨by rw [HE.out]; rfl, HM.out⟩
theorem eqFlds_any (a b : List Fld) (va vb : Value) (w : World) (ha : Sl fldL w va a) (hb : Sl fldL w vb b) : Calls Try.prog 89 #[va, vb] w fun e w' => e = .returned (.bool (decide (a = b))) ∧ Below w.heap.size w w' :=
  (eqFlds_any_q a b va vb w ha hb).mono fun _ _ ⟨h, m, hm⟩ => ⟨h, by rw [hm]; exact below_drewN (Below.refl _ _) m⟩

theorem bnd_eql (x y : Bnd) (w : World) : (binOp .eql 31 (.agg #[.string x.name, .string x.src, .string x.dst, .int .i64 x.mn, .int .i64 x.mx]) (.agg #[.string y.name, .string y.src, .string y.dst, .int .i64 y.mn, .int .i64 y.mx])).run Try.prog w = .ok (.bool (decide (x = y))) w := by
  rw [run_eql_struct, show (10000 : Nat) = 9998 + 2 from rfl, bnd_same]; rfl
set_option maxHeartbeats 1000000 in
theorem indexBnd_any (l : List Bnd) (x : Bnd) (v : Value) (w : World) (hv : Sl bndL w v l) :
    Calls Try.prog 90 #[v, .agg #[.string x.name, .string x.src, .string x.dst, .int .i64 x.mn, .int .i64 x.mx]] w fun e w' => e = .returned (.int .i64 (idxI (fun y => decide (x = y)) l)) ∧ Below w.heap.size w w' := by
  obtain ⟨A, c, rfl, hlc, hcm⟩ := hv.form
  unfold maxLen at hcm
  have hb0 : Below w.heap.size w (w.alloc (.cells #[.string x.name, .string x.src, .string x.dst, .int .i64 x.mn, .int .i64 x.mx] 31)) := (Below.refl _ _).alloc (Nat.le_refl _) _
  obtain ⟨x0, x1, x2, x3, x4⟩ := cell_box5 w (.string x.name) (.string x.src) (.string x.dst) (.int .i64 x.mn) (.int .i64 x.mx) 31
  generalize hW0 : w.alloc (.cells #[.string x.name, .string x.src, .string x.dst, .int .i64 x.mn, .int .i64 x.mx] 31) = W0 at *
  have HV := Lib.hid (hv.below hb0)
  have hw0 := hb0.size
  clear hv
  go_enter Try.func90, Try.ntmps90
  go_wp2_with fail
  clear hW0
  go_loopw [8] (fun i wr => ∃ k : Nat, k ≤ l.length ∧ i = .int .i64 k ∧ Below W0.heap.size W0 wr ∧ Hid (∀ j y, j < k → l[j]? = some y → decide (x = y) = false)) (fun i _ => l.length - (intOf i).toNat)
  case atStart => exact ⟨0, Nat.zero_le _, rfl, Below.refl _ _, fun j x hj => absurd hj (Nat.not_lt_zero _)⟩
  case round =>
    obtain ⟨k, hk, rfl, hbr, HA⟩ := hrel
    by_cases hlt : k < l.length
    · obtain ⟨d, hd⟩ : ∃ d, l[k]? = some d := ⟨_, List.getElem?_eq_getElem hlt⟩
      obtain ⟨b, o, rfl, _, c0, c1, c2, c3, c4⟩ := bnd_at (HV.out.below hbr) hd
      have x0 := cell_below hbr x0
      have x1 := cell_below hbr x1
      have x2 := cell_below hbr x2
      have x3 := cell_below hbr x3
      have x4 := cell_below hbr x4
      have hlt' : (k : Int) < (l.length : Int) := by omega
      have HD := Lib.hid hd
      have heq := bnd_eql x d
      have hgd := bnd_guard
      have hBr := hb0.trans (hbr.mono hw0)
      by_cases hq : x = d
      · have HE : Hid (idxI (fun y => decide (x = y)) l = k) := idxI_hit HA.out HD.out (decide_eq_true hq)
        rw [decide_eq_true hq] at heq
        clear hd hq
        go_wp2_with fail
        go_quiet (fail)
        go_wp2_with fail
        go_ret
        exact ⟨by rw [HE.out]; rfl, below_drewN hBr _⟩
      · have HS : Hid (∀ j y, j < k + 1 → l[j]? = some y → decide (x = y) = false) := miss_step HA.out HD.out (decide_eq_false hq)
        rw [decide_eq_false hq] at heq
        clear hd hq
        go_wp2_with fail
        go_quiet (fail)
        go_wp2_with fail
        go_roundw
        case rel => exact ⟨k + 1, by omega, by go_num, below_drewN hbr _, HS⟩
        case measure => simp [intOf]; omega
    · have hkl : k = l.length := by omega
      subst hkl
      have HE : Hid (idxI (fun y => decide (x = y)) l = -1) := idxI_miss HA.out
      have hBr := hb0.trans (hbr.mono hw0)
      go_wp2_with fail
      go_ret
      exact ⟨by rw [HE.out]; rfl, hBr⟩
theorem containsBnd_any (l : List Bnd) (x : Bnd) (v : Value) (w : World) (hv : Sl bndL w v l) :
    Calls Try.prog 47 #[v, .agg #[.string x.name, .string x.src, .string x.dst, .int .i64 x.mn, .int .i64 x.mx]] w fun e w' => e = .returned (.bool (l.any fun y => decide (x = y))) ∧ Below w.heap.size w w' := by
  have hb0 : Below w.heap.size w (w.alloc (.cells #[.string x.name, .string x.src, .string x.dst, .int .i64 x.mn, .int .i64 x.mx] 31)) := (Below.refl _ _).alloc (Nat.le_refl _) _
  have h1 := indexBnd_any l x v _ (hv.below hb0)
  have h2 := idxI_any (fun y => decide (x = y)) l
  have H2 := Lib.hid h2
  obtain ⟨A, c, rfl, _, _⟩ := hv.form
  clear h2 hv
  go_enter Try.func47, Try.ntmps47
  go_wp2_with fail
  refine h1.mono ?_
  rintro e w' ⟨rfl, hb1⟩
  go_wp2_with fail
  go_ret
  exact ⟨ret_bool H2.out, hb0.trans (hb1.mono (by simp))⟩
theorem both_any (a b : Scm) (k1 b1 k2 b2 : Value) (w : World) (h1 : ScmR w k1 b1 a) (h2 : ScmR w k2 b2 b) :
    Calls Try.prog 44 #[.agg #[k1, b1], .agg #[k2, b2]] w fun e w' => e = .returned (errV (bothE a b)) ∧ Below w.heap.size w w' := by
  obtain ⟨A1, c1, rfl, _, _⟩ := h1.1.form
  obtain ⟨A2, c2, rfl, _, _⟩ := h1.2.form
  obtain ⟨A3, c3, rfl, _, _⟩ := h2.1.form
  obtain ⟨A4, c4, rfl, _, _⟩ := h2.2.form
  have hb0 : Below w.heap.size w ((w.alloc (.cells #[.slice A1 a.kinds.length c1, .slice A2 a.bonds.length c2] 25)).alloc (.cells #[.slice A3 b.kinds.length c3, .slice A4 b.bonds.length c4] 25)) := ((Below.refl _ _).alloc (Nat.le_refl _) _).alloc (by simp) _
  have g1 : ((w.alloc (.cells #[.slice A1 a.kinds.length c1, .slice A2 a.bonds.length c2] 25)).alloc (.cells #[.slice A3 b.kinds.length c3, .slice A4 b.bonds.length c4] 25)).heap[w.heap.size + 1]? = some (.cells #[.slice A3 b.kinds.length c3, .slice A4 b.bonds.length c4] 25 (0, 0)) := by
    have := heap_alloc_new (w.alloc (.cells #[.slice A1 a.kinds.length c1, .slice A2 a.bonds.length c2] 25)) (.cells #[.slice A3 b.kinds.length c3, .slice A4 b.bonds.length c4] 25); simpa using this
  have hr1 := sright_any a _ _ _ (h1.below hb0)
  have HB := Lib.hid h2
  have HBE : Hid (bothE a b = if (scmE a).2 = 0 then (scmE b).2 else (scmE a).2) := rfl
  have hsz : w.heap.size + 1 < ((w.alloc (.cells #[.slice A1 a.kinds.length c1, .slice A2 a.bonds.length c2] 25)).alloc (.cells #[.slice A3 b.kinds.length c3, .slice A4 b.bonds.length c4] 25)).heap.size := by simp
  have HG := Lib.hid g1
  generalize hz : (scmE a).2 = z at *
  generalize hbe : bothE a b = be at *
  clear h1 h2 g1 hz hbe
  go_enter Try.func44, Try.ntmps44
  go_wp2_with fail
  refine hr1.mono ?_
  clear hr1
  rintro e w1 ⟨rfl, hb1⟩
  have hB1 := hb0.trans (hb1.mono hb0.size)
  have g2 := (hb1.block _ hsz).trans HG.out
  by_cases he : z = 0
  case neg =>
    have HE : Hid (errV be = .iface 98 (.int .i64 z)) := by unfold Hid; rw [HBE.out, if_neg he]; exact errV_some he
    rw [errV_some he]
    clear he hsz
    go_wp2_with fail
    go_ret
    exact ⟨by rw [HE.out]; rfl, hB1⟩
  have HE : Hid (be = (scmE b).2) := by unfold Hid; rw [HBE.out, if_pos he]
  have hr2 := sright_any b _ _ w1 (HB.out.below hB1)
  have x0 := block_cell g2 0
  have x1 := block_cell g2 1
  rw [errV_zero he]
  generalize (scmE b).2 = z2 at *
  clear he hsz g2
  go_wp2_with fail
  refine hr2.mono ?_
  clear hr2
  rintro e w2 ⟨rfl, hb2⟩
  go_wp2_with fail
  go_ret
  exact ⟨by rw [HE.out]; rfl, hB1.trans (hb2.mono hB1.size)⟩
theorem equalK_any (a b : Knd) (u1 x1 u2 x2 : Value) (w : World) (ho1 : Sl strL w u1 a.ofs) (hf1 : Sl fldL w x1 a.fields) (ho2 : Sl strL w u2 b.ofs) (hf2 : Sl fldL w x2 b.fields) :
    Calls Try.prog 46 #[.agg #[.string a.name, u1, x1], .agg #[.string b.name, u2, x2]] w fun e w' => e = .returned (.bool (eqK a b)) ∧ Below w.heap.size w w' := by
  obtain ⟨A1, c1, rfl, _, _⟩ := ho1.form
  obtain ⟨A2, c2, rfl, _, _⟩ := hf1.form
  obtain ⟨A3, c3, rfl, _, _⟩ := ho2.form
  obtain ⟨A4, c4, rfl, _, _⟩ := hf2.form
  obtain ⟨W0, hW0⟩ : ∃ W0, W0 = (w.alloc (.cells #[.string a.name, .slice A1 a.ofs.length c1, .slice A2 a.fields.length c2] 29)).alloc (.cells #[.string b.name, .slice A3 b.ofs.length c3, .slice A4 b.fields.length c4] 29) := ⟨_, rfl⟩
  have hb0 : Below w.heap.size w W0 := by rw [hW0]; exact ((Below.refl _ _).alloc (Nat.le_refl _) _).alloc (by simp) _
  have g0 : W0.heap[w.heap.size]? = some (.cells #[.string a.name, .slice A1 a.ofs.length c1, .slice A2 a.fields.length c2] 29 (0, 0)) := by
    rw [hW0, Below.heap_alloc _ _ _ (by simp)]; exact heap_alloc_new _ _
  have g1 : W0.heap[w.heap.size + 1]? = some (.cells #[.string b.name, .slice A3 b.ofs.length c3, .slice A4 b.fields.length c4] 29 (0, 0)) := by
    have := heap_alloc_new (w.alloc (.cells #[.string a.name, .slice A1 a.ofs.length c1, .slice A2 a.fields.length c2] 29)) (.cells #[.string b.name, .slice A3 b.ofs.length c3, .slice A4 b.fields.length c4] 29); rw [hW0]; simpa using this
  have x1 := block_cell g0 1
  have x2 := block_cell g0 2
  have y1 := block_cell g1 1
  have y2 := block_cell g1 2
  have h1 := eqStrs_any a.ofs b.ofs _ _ W0 (ho1.below hb0) (ho2.below hb0)
  have HF1 := Lib.hid (hf1.below hb0)
  have HF2 := Lib.hid (hf2.below hb0)
  have hW0' := hW0.symm
  have HEK : Hid (eqK a b = (decide (a.ofs = b.ofs) && decide (a.fields = b.fields))) := rfl
  have hw0 := hb0.size
  generalize eqK a b = q at *
  clear ho1 hf1 ho2 hf2 hW0 g0 g1
  go_enter Try.func46, Try.ntmps46
  go_wp2_with fail
  refine h1.mono ?_
  clear h1 hW0'
  rintro e w1 ⟨rfl, hb1⟩
  have hB1 := hb0.trans (hb1.mono hw0)
  have x2 := cell_below hb1 x2
  have y2 := cell_below hb1 y2
  have h2 := eqFlds_any a.fields b.fields _ _ w1 (HF1.out.below hb1) (HF2.out.below hb1)
  generalize decide (a.fields = b.fields) = q2 at *
  generalize decide (a.ofs = b.ofs) = q1 at *
  clear x1 y1
  cases q1 with
  | false =>
    have HE : Hid (q = false) := by unfold Hid; rw [HEK.out]; rfl
    clear h2 HEK
    go_wp2_with fail
    go_ret
    exact ⟨by rw [HE.out]; rfl, hB1⟩
  | true =>
    have HE : Hid (q = q2) := by unfold Hid; rw [HEK.out]; rfl
    clear HEK
    go_wp2_with fail
    refine h2.mono ?_
    clear h2
    rintro e w2 ⟨rfl, hb2⟩
    go_wp2_with fail
    go_ret
    exact ⟨by rw [HE.out]; rfl, hB1.trans (hb2.mono hB1.size)⟩
end Go.Proofs.Ytldonhgcifhpgaa

/- As Qm: the operation in the middle may be guarded; its guard lets it be done. Conditions: the Bool on the region. -/
namespace Go.Proofs.Ytldonhgcifhpgaa
open Go Go.RowKit Go.Sort
section
variable {P : Program} {ops : Array Oper} {md : Region.Mode} {C : World → Prop}
theorem wp_region_midg {id : Nat} {Q : Exit → Act → World → Prop} {a : Act} {w : World} {l : List Oper} (n : Nat) (om : Oper) (hom : l[n]? = some om) (hm : P.follows .mixedOrders = true) (hB : midB .any l.toArray n = true)
    (hC : C { w with drawn := w.drawn + 1 })
    (h : wpQuiet P l.toArray C (fun a' => Region.wanted om (yielded l.toArray a'.tmps) = true ∧ ∀ w', C w' → om.wp P a' w' (fun a2 w2 => wpQuiet P l.toArray (fun x => ∃ n, x = w2.drewN n) (fun a3 => ∀ w3, (∃ n, w3 = w2.drewN n) → Q .normal a3 w3) (l.drop (n + 1)) a2) Q) (l.take n) a) : (Code.region id l.toArray true).wp P Q a w := by
  simp only [midB, Bool.and_eq_true, decide_eq_true_eq] at hB
  obtain ⟨⟨⟨⟨hsel, hn⟩, hs⟩, hc⟩, hlex⟩ := hB
  have hn' : n < l.length := by simpa using hn
  have htl : (l.take n).length = n := by simp; omega
  have hdl : (l.drop (n + 1)).length = l.toArray.size - n - 1 := by simp; omega
  have inv0 : HeadInv .any l.toArray n (Array.replicate l.toArray.size false) :=
    ⟨by simp, fun j oj _ hl => (by rw [getD_replicate_false] at hl; cases hl), fun t _ ht => getD_in (by simpa using ht) (getD_replicate_false _ _)⟩
  have H := wpAnyLQ_lex2 (C := C) (md := .any) (g := l.toArray.size - n - 1) hsel hs hc hn (l.take n) 0 _ a (fun j hj => by
    have hj' : j < n := by rw [htl] at hj; exact hj
    simp [hj']) (by simpa using htl) inv0 (by rw [htl]; exact hlex) h
  refine wp_region_any hm ?_
  have key := wpAny_of_headQ (C := C) (Q' := Q) (g := l.toArray.size - n - 1 + 1) (fun listed a' w' hw' hL => by
    have h1 := hL.1
    simp only [midRest, Bool.and_eq_true, decide_eq_true_eq] at h1
    refine ⟨fun h0 => (by rw [h1.1] at h0; cases h0), fun i hi => ?_⟩
    rw [h1.1] at hi
    obtain rfl : i = n := by simpa using hi
    have h0 : l.toArray[i]? = some om := by simpa using hom
    unfold wpOp
    simp only [h0]
    have hw := hL.2.1
    simp only [hw, if_true]
    refine .inl ?_
    have h2 := hL.2.2 w' hw'
    unfold Oper.wp at h2 ⊢
    generalize (execOp a'.eval om).run P w' = r at h2 ⊢
    have step : ∀ a2 w2, wpQuiet P l.toArray (fun x => ∃ n, x = w2.drewN n) (fun a3 => ∀ w3, (∃ n, w3 = w2.drewN n) → Q .normal a3 w3) (l.drop (i + 1)) a2 →
        wpAny P .any l.toArray Q (l.toArray.size - i - 1) (listed.setIfInBounds i true) a2 w2 := fun a2 w2 hq => by
      have h3 := wpAnyQ_lex (C := fun x => ∃ n, x = w2.drewN n) (md := .any) hsel (l.drop (i + 1)) (i + 1) (listed.setIfInBounds i true) a2 (fun j => by simp [List.getElem?_drop]) (by rw [hdl]; exact h1.2) hq
      rw [hdl] at h3
      exact wpAny_of_quiet (Q := fun a3 => ∀ w3, (∃ n, w3 = w2.drewN n) → Q .normal a3 w3) (fun _ w3 hw3 h => h w3 hw3) _ _ _ _ ⟨0, rfl⟩ h3
    cases r with
    | ok nx w2 =>
      cases nx <;> simp only [Oper.upon] at h2 ⊢
      case value v => exact step _ _ h2
      case skip => exact step _ _ h2
      case defer d => exact step _ _ h2
      case enter f args =>
        refine h2.mono fun e w3 h3 => ?_
        cases e with
        | returned v => exact step _ _ h3
        | panicked c => exact h3
        | outgrown => exact h3
      case row r args => exact h2.mono fun v w3 h3 => step _ _ h3
      all_goals first | exact h2.elim | exact h2
    | halt hh w2 =>
      cases hh <;> simp only [Oper.upon] at h2 ⊢
      all_goals first | exact h2 | exact h2.elim) _ _ _ _ hC H
  rw [htl, show n + (l.toArray.size - n - 1 + 1) = l.toArray.size by simp only [List.size_toArray]; omega] at key
  exact key

theorem wp_mid_g {id : Nat} {Q : Exit → Act → World → Prop} {a : Act} {w : World} {l : List Oper} (n : Nat) (om : Oper) (hom : l[n]? = some om) (hm : P.follows .mixedOrders = true) (hB : midB .any l.toArray n = true)
    (h : wpQuiet P l.toArray (fun w' => ∃ n, w' = w.drewN n) (fun a' => Region.wanted om (yielded l.toArray a'.tmps) = true ∧ ∀ w', (∃ n, w' = w.drewN n) → ∀ K : Act → World → Prop, (∀ a2 w2, wpQuiet P l.toArray (fun x => ∃ n, x = w2.drewN n) (fun a3 => ∀ w3, (∃ n, w3 = w2.drewN n) → Q .normal a3 w3) (l.drop (n + 1)) a2 → K a2 w2) → om.wp P a' w' K Q) (l.take n) a) : (Code.region id l.toArray true).wp P Q a w :=
  wp_region_midg (C := fun w' => ∃ n, w' = w.drewN n) n om hom hm hB ⟨1, rfl⟩ (wpQuiet_mono (fun _ h => ⟨h.1, fun w' hw' => h.2 w' hw' _ fun _ _ h => h⟩) _ _ h)
end
end Go.Proofs.Ytldonhgcifhpgaa
