/- Contracts: value.Type, kind.fields. -/
import Derived.Test.YtdfeloeainabjaaDoorKinF
namespace Go.Proofs.YtdfeloeainabjaaDoor
open Go.RowKit

def tyB (t : Int) : Bool := decide (1 ≤ t ∧ t ≤ 3)
theorem typ_any (t : Int) (w : World) :
    Calls Tryd.prog 95 #[.int .i64 t] w fun e w' => e = .returned (.bool (tyB t)) ∧ w = w' := by
  by_cases h1 : 1 ≤ t
  · by_cases h2 : t ≤ 3
    · have HB : Hid (tyB t = true) := by unfold tyB Hid; simp [h1, h2]
      have d1 : decide (1 ≤ t) = true := decide_eq_true h1
      have d2 : decide (t ≤ 3) = true := decide_eq_true h2
      go_enter Tryd.func95, Tryd.ntmps95
      go_wp2_with fail
      go_ret
      exact ⟨by rw [HB.out]; rfl, rfl⟩
    · have HB : Hid (tyB t = false) := by unfold tyB Hid; simp [h2]
      have d1 : decide (1 ≤ t) = true := decide_eq_true h1
      have d2 : decide (t ≤ 3) = false := decide_eq_false h2
      have h3 : 3 < t := by omega
      go_enter Tryd.func95, Tryd.ntmps95
      go_wp2_with fail
      go_ret
      exact ⟨by rw [HB.out]; rfl, rfl⟩
  · have HB : Hid (tyB t = false) := by unfold tyB Hid; simp [h1]
    have d1 : decide (1 ≤ t) = false := decide_eq_false h1
    have h3 : t < 1 := by omega
    go_enter Tryd.func95, Tryd.ntmps95
    go_wp2_with fail
    go_ret
    exact ⟨by rw [HB.out]; rfl, rfl⟩
/-- What is wrong with one field, behind another one. -/
def fldE (p : Option Fld) (f : Fld) : Int :=
  if nameE f.name = 0 then (if tyB f.ty then (if f.key && !f.must then 3 else match p with | some q => (if ltS q.name f.name then 0 else 7) | none => 0) else 8) else nameE f.name
def fldsE : Option Fld → List Fld → Int
  | _, [] => 0
  | p, f :: r => if fldE p f = 0 then fldsE (some f) r else fldE p f
theorem prev_succ {D : Type} {l : List D} {k : Nat} {d : D} (h : l[k]? = some d) : prev l (k + 1) = some d := by
  unfold prev; simpa using h
theorem cell_box4 (w : World) (a b c d : Value) (t : TypeId) : (w.alloc (.cells #[a, b, c, d] t)).cell? ⟨w.heap.size, 0, none⟩ = some a ∧ (w.alloc (.cells #[a, b, c, d] t)).cell? ⟨w.heap.size, 1, none⟩ = some b ∧
    (w.alloc (.cells #[a, b, c, d] t)).cell? ⟨w.heap.size, 2, none⟩ = some c ∧ (w.alloc (.cells #[a, b, c, d] t)).cell? ⟨w.heap.size, 3, none⟩ = some d :=
  ⟨by rw [World.cell?_alloc_at _ _ _ _ rfl]; rfl, by rw [World.cell?_alloc_at _ _ _ _ rfl]; rfl, by rw [World.cell?_alloc_at _ _ _ _ rfl]; rfl, by rw [World.cell?_alloc_at _ _ _ _ rfl]; rfl⟩
set_option maxHeartbeats 4000000 in
theorem flds_any (l : List Fld) (v : Value) (w : World) (hv : Sl fldL w v l) :
    Calls Tryd.prog 78 #[v] w fun e w' => e = .returned (errV (fldsE none l)) ∧ Below w.heap.size w w' := by
  obtain ⟨A, c, rfl, hlc, hcm⟩ := hv.form
  unfold maxLen at hcm
  go_enter Tryd.func78, Tryd.ntmps78
  go_wp2_with fail
  go_loopw [8] (fun i wr => ∃ k : Nat, k ≤ l.length ∧ i = .int .i64 k ∧ Below w.heap.size w wr ∧ Hid (fldsE none l = fldsE (prev l k) (l.drop k))) (fun i _ => l.length - (intOf i).toNat)
  case atStart => exact ⟨0, Nat.zero_le _, rfl, Below.refl _ _, rfl⟩
  case round =>
    obtain ⟨k, hk, rfl, hb, HR⟩ := hrel
    by_cases hlt : k < l.length
    · obtain ⟨d, hd⟩ : ∃ d, l[k]? = some d := ⟨_, List.getElem?_eq_getElem hlt⟩
      obtain ⟨b, o, rfl, hok, x0, x1, x2, x3⟩ := fld_at (hv.below hb) hd
      obtain ⟨z0, z1, z2, z3⟩ := cell_box4 wr (.string d.name) (.int .i64 d.ty) (.bool d.must) (.bool d.key) 55
      have hlt' : (k : Int) < (l.length : Int) := by omega
      have HS : Hid (fldsE none l = if fldE (prev l k) d = 0 then fldsE (prev l (k + 1)) (l.drop (k + 1)) else fldE (prev l k) d) := by
        unfold Hid; rw [HR.out, drop_cons hd, fldsE, prev_succ hd]
      by_cases hn : nameE d.name = 0
      · have hE : errV (nameE d.name) = .nilIface := errV_zero hn
        have HQ : Hid (fldE (prev l k) d = if tyB d.ty then (if d.key && !d.must then 3 else match prev l k with | some q => (if ltS q.name d.name then 0 else 7) | none => 0) else 8) := by
          unfold Hid fldE; rw [if_pos hn]
        have HD := Lib.hid hd
        have HV := Lib.hid hv
        clear hn hd hv
        cases hT : tyB d.ty with
        | false =>
          have HE : Hid (errV (fldsE none l) = .iface 80 (.int .i64 8)) := by
            have : fldE (prev l k) d = 8 := by rw [HQ.out, hT]; rfl
            unfold Hid; rw [HS.out, this]; rfl
          clear HQ
          go_wp2_with fail
          refine (name_any d.name _ hok.1).mono ?_
          rintro e w1 ⟨rfl, hb1⟩
          rw [hE]
          have hb2 : Below w.heap.size w w1 := (hb.alloc hb.size _).trans (hb1.mono (by have := hb.size; simp; omega))
          have q0 := cell_below hb1 z0
          have q1 := cell_below hb1 z1
          have q2 := cell_below hb1 z2
          have q3 := cell_below hb1 z3
          try have y1 := cell_below hb1 (cell_below ((Below.refl _ _).alloc (Nat.le_refl _) _) y0)
          go_wp2_with (go_at_call 95; refine (typ_any _ _).mono ?_; rw [hT]; rintro e w2 ⟨rfl, rfl⟩)
          go_ret
          exact ⟨by rw [HE.out]; rfl, hb2⟩
        | true =>
          have HQ2 : Hid (fldE (prev l k) d = if d.key && !d.must then 3 else match prev l k with | some q => (if ltS q.name d.name then 0 else 7) | none => 0) := by
            unfold Hid; rw [HQ.out, hT]; rfl
          clear HQ
          cases hK : (d.key && !d.must) with
          | true =>
            have HE : Hid (errV (fldsE none l) = .iface 80 (.int .i64 3)) := by
              have : fldE (prev l k) d = 3 := by rw [HQ2.out, hK]; rfl
              unfold Hid; rw [HS.out, this]; rfl
            clear HQ2
            have hk1 : d.key = true := by cases h : d.key <;> simp [h] at hK ⊢
            have hk2 : d.must = false := by cases h : d.must <;> simp [h] at hK ⊢
            clear hK
            rw [hk1, hk2] at z0 z1 z2 z3
            rw [hk1] at x3
            rw [hk2] at x2
            go_wp2_with fail
            refine (name_any d.name _ hok.1).mono ?_
            rintro e w1 ⟨rfl, hb1⟩
            rw [hE]
            have hb2 : Below w.heap.size w w1 := (hb.alloc hb.size _).trans (hb1.mono (by have := hb.size; simp; omega))
            have q0 := cell_below hb1 z0
            have q1 := cell_below hb1 z1
            have q2 := cell_below hb1 z2
            have q3 := cell_below hb1 z3
            try have y1 := cell_below hb1 (cell_below ((Below.refl _ _).alloc (Nat.le_refl _) _) y0)
            go_wp2_with (go_at_call 95; refine (typ_any _ _).mono ?_; rw [hT]; rintro e w2 ⟨rfl, rfl⟩)
            go_ret
            exact ⟨by rw [HE.out]; rfl, hb2⟩
          | false =>
            have HQ3 : Hid (fldE (prev l k) d = match prev l k with | some q => (if ltS q.name d.name then 0 else 7) | none => 0) := by
              unfold Hid; rw [HQ2.out, hK]; rfl
            clear HQ2
            have hkm : d.key = false ∨ (d.key = true ∧ d.must = true) := by cases h : d.key <;> simp [h] at hK ⊢; exact hK
            clear hK
            by_cases h0 : k = 0
            · subst h0
              simp only [Nat.zero_mul, Nat.add_zero] at x0 x1 x2 x3
              have HN : Hid (fldsE none l = fldsE (prev l (0 + 1)) (l.drop (0 + 1))) := by unfold Hid; rw [HS.out, HQ3.out]; rfl
              clear HQ3 HS
              rcases hkm with hk1 | ⟨hk1, hk2⟩
              · rw [hk1] at z0 z1 z2 z3 x3
                go_wp2_with fail
                refine (name_any d.name _ hok.1).mono ?_
                rintro e w1 ⟨rfl, hb1⟩
                rw [hE]
                have hb2 : Below w.heap.size w w1 := (hb.alloc hb.size _).trans (hb1.mono (by have := hb.size; simp; omega))
                have q0 := cell_below hb1 z0
                have q1 := cell_below hb1 z1
                have q2 := cell_below hb1 z2
                have q3 := cell_below hb1 z3
                try have y1 := cell_below hb1 (cell_below ((Below.refl _ _).alloc (Nat.le_refl _) _) y0)
                go_wp2_with (go_at_call 95; refine (typ_any _ _).mono ?_; rw [hT]; rintro e w2 ⟨rfl, rfl⟩)
                go_quiet (fail)
                go_wp2_with fail
                go_roundw
                case rel => exact ⟨1, by omega, by go_num, below_drewN hb2 _, HN⟩
                case measure => simp [intOf]; omega
              · rw [hk1, hk2] at z0 z1 z2 z3
                rw [hk1] at x3
                rw [hk2] at x2
                go_wp2_with fail
                refine (name_any d.name _ hok.1).mono ?_
                rintro e w1 ⟨rfl, hb1⟩
                rw [hE]
                have hb2 : Below w.heap.size w w1 := (hb.alloc hb.size _).trans (hb1.mono (by have := hb.size; simp; omega))
                have q0 := cell_below hb1 z0
                have q1 := cell_below hb1 z1
                have q2 := cell_below hb1 z2
                have q3 := cell_below hb1 z3
                try have y1 := cell_below hb1 (cell_below ((Below.refl _ _).alloc (Nat.le_refl _) _) y0)
                go_wp2_with (go_at_call 95; refine (typ_any _ _).mono ?_; rw [hT]; rintro e w2 ⟨rfl, rfl⟩)
                go_quiet (fail)
                go_wp2_with fail
                go_roundw
                case rel => exact ⟨1, by omega, by go_num, below_drewN hb2 _, HN⟩
                case measure => simp [intOf]; omega
            · obtain ⟨q, hq⟩ : ∃ q, l[k - 1]? = some q := ⟨_, List.getElem?_eq_getElem (by omega)⟩
              have hkd0 : (0 : Int) < (k : Int) := by omega
              have hkd1 : decide ((0 : Int) < (k : Int)) = true := decide_eq_true hkd0
              have hkd2 : decide (0 < k) = true := decide_eq_true (by omega)
              have hpv : prev l k = some q := by
                obtain ⟨m, rfl⟩ : ∃ m, k = m + 1 := ⟨k - 1, by omega⟩
                exact hq
              obtain ⟨b', o', hA', _, y0, _⟩ := fld_at (HV.out.below hb) hq
              injection hA' with e5
              injection e5 with e6 e7
              subst e6; subst e7
              cases hL : ltS q.name d.name with
              | true =>
                have HN : Hid (fldsE none l = fldsE (prev l (k + 1)) (l.drop (k + 1))) := by unfold Hid; rw [HS.out, HQ3.out, hpv]; simp [hL]
                have hL' : Op.bytesLess q.name.toList d.name.toList = true := hL
                clear HQ3 HS hq hpv hL
                rcases hkm with hk1 | ⟨hk1, hk2⟩
                · rw [hk1] at z0 z1 z2 z3 x3
                  go_wp2_with fail
                  refine (name_any d.name _ hok.1).mono ?_
                  rintro e w1 ⟨rfl, hb1⟩
                  rw [hE]
                  have hb2 : Below w.heap.size w w1 := (hb.alloc hb.size _).trans (hb1.mono (by have := hb.size; simp; omega))
                  have q0 := cell_below hb1 z0
                  have q1 := cell_below hb1 z1
                  have q2 := cell_below hb1 z2
                  have q3 := cell_below hb1 z3
                  try have y1 := cell_below hb1 (cell_below ((Below.refl _ _).alloc (Nat.le_refl _) _) y0)
                  go_wp2_with (go_at_call 95; refine (typ_any _ _).mono ?_; rw [hT]; rintro e w2 ⟨rfl, rfl⟩)
                  go_quiet (fail)
                  go_wp2_with fail
                  go_roundw
                  case rel => exact ⟨k + 1, by omega, by go_num, below_drewN hb2 _, HN⟩
                  case measure => simp [intOf]; omega
                · rw [hk1, hk2] at z0 z1 z2 z3
                  rw [hk1] at x3
                  rw [hk2] at x2
                  go_wp2_with fail
                  refine (name_any d.name _ hok.1).mono ?_
                  rintro e w1 ⟨rfl, hb1⟩
                  rw [hE]
                  have hb2 : Below w.heap.size w w1 := (hb.alloc hb.size _).trans (hb1.mono (by have := hb.size; simp; omega))
                  have q0 := cell_below hb1 z0
                  have q1 := cell_below hb1 z1
                  have q2 := cell_below hb1 z2
                  have q3 := cell_below hb1 z3
                  try have y1 := cell_below hb1 (cell_below ((Below.refl _ _).alloc (Nat.le_refl _) _) y0)
                  go_wp2_with (go_at_call 95; refine (typ_any _ _).mono ?_; rw [hT]; rintro e w2 ⟨rfl, rfl⟩)
                  go_quiet (fail)
                  go_wp2_with fail
                  go_roundw
                  case rel => exact ⟨k + 1, by omega, by go_num, below_drewN hb2 _, HN⟩
                  case measure => simp [intOf]; omega
              | false =>
                have HE : Hid (errV (fldsE none l) = .iface 80 (.int .i64 7)) := by unfold Hid; rw [HS.out, HQ3.out, hpv]; simp [hL, errV]
                have hL' : Op.bytesLess q.name.toList d.name.toList = false := hL
                clear HQ3 HS hq hpv hL
                rcases hkm with hk1 | ⟨hk1, hk2⟩
                · rw [hk1] at z0 z1 z2 z3 x3
                  go_wp2_with fail
                  refine (name_any d.name _ hok.1).mono ?_
                  rintro e w1 ⟨rfl, hb1⟩
                  rw [hE]
                  have hb2 : Below w.heap.size w w1 := (hb.alloc hb.size _).trans (hb1.mono (by have := hb.size; simp; omega))
                  have q0 := cell_below hb1 z0
                  have q1 := cell_below hb1 z1
                  have q2 := cell_below hb1 z2
                  have q3 := cell_below hb1 z3
                  try have y1 := cell_below hb1 (cell_below ((Below.refl _ _).alloc (Nat.le_refl _) _) y0)
                  go_wp2_with (go_at_call 95; refine (typ_any _ _).mono ?_; rw [hT]; rintro e w2 ⟨rfl, rfl⟩)
                  go_quiet (fail)
                  go_wp2_with fail
                  go_ret
                  exact ⟨by rw [HE.out]; rfl, below_drewN hb2 _⟩
                · rw [hk1, hk2] at z0 z1 z2 z3
                  rw [hk1] at x3
                  rw [hk2] at x2
                  go_wp2_with fail
                  refine (name_any d.name _ hok.1).mono ?_
                  rintro e w1 ⟨rfl, hb1⟩
                  rw [hE]
                  have hb2 : Below w.heap.size w w1 := (hb.alloc hb.size _).trans (hb1.mono (by have := hb.size; simp; omega))
                  have q0 := cell_below hb1 z0
                  have q1 := cell_below hb1 z1
                  have q2 := cell_below hb1 z2
                  have q3 := cell_below hb1 z3
                  try have y1 := cell_below hb1 (cell_below ((Below.refl _ _).alloc (Nat.le_refl _) _) y0)
                  go_wp2_with (go_at_call 95; refine (typ_any _ _).mono ?_; rw [hT]; rintro e w2 ⟨rfl, rfl⟩)
                  go_quiet (fail)
                  go_wp2_with fail
                  go_ret
                  exact ⟨by rw [HE.out]; rfl, below_drewN hb2 _⟩
      · have hE : errV (nameE d.name) = .iface 80 (.int .i64 (nameE d.name)) := errV_some hn
        have HE : Hid (errV (fldsE none l) = .iface 80 (.int .i64 (nameE d.name))) := by
          have : fldE (prev l k) d = nameE d.name := by unfold fldE; rw [if_neg hn]
          unfold Hid; rw [HS.out, this, if_neg hn]; exact hE
        clear hn hd hv
        go_wp2_with fail
        refine (name_any d.name _ hok.1).mono ?_
        rintro e w1 ⟨rfl, hb1⟩
        rw [hE]
        have hb2 : Below w.heap.size w w1 := (hb.alloc hb.size _).trans (hb1.mono (by have := hb.size; simp; omega))
        have q0 := cell_below hb1 z0
        have q1 := cell_below hb1 z1
        have q2 := cell_below hb1 z2
        have q3 := cell_below hb1 z3
        try have y1 := cell_below hb1 (cell_below ((Below.refl _ _).alloc (Nat.le_refl _) _) y0)
        go_wp2_with fail
        go_ret
        exact ⟨by rw [HE.out]; rfl, hb2⟩
    · obtain rfl : k = l.length := by omega
      have HE : Hid (errV (fldsE none l) = .nilIface) := by unfold Hid; rw [HR.out, List.drop_length]; rfl
      clear hv
      go_wp2_with fail
      go_ret
      exact ⟨by rw [HE.out]; rfl, hb⟩
end Go.Proofs.YtdfeloeainabjaaDoor
