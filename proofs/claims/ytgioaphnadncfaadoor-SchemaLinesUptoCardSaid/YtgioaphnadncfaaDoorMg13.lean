/- Parts: KinE, KinF, KinG. -/
import Derived.Test.YtgioaphnadncfaaDoorMg07
import Derived.Test.YtgioaphnadncfaaDoorMg10
import Derived.Test.YtgioaphnadncfaaDoorMg11
import Derived.Test.YtgioaphnadncfaaDoorMg12
/- Contracts: kind.FieldsOf's comparison and its binary search. -/
namespace Go.Proofs.YtgioaphnadncfaaDoor
open Go.RowKit

theorem fieldsOf1_any (d : Fld) (name : ByteArray) (w : World) :
    Calls Tryd.prog 105 #[.agg #[.string d.name, .int .i64 d.ty, .bool d.must, .bool d.key], .string name] w fun e w' => e = .returned (.int .i64 (cmpS d.name name)) ∧ Below w.heap.size w w' := by
  go_enter Tryd.func105, Tryd.ntmps105
  go_wp2_with (go_at_call 39; refine (scmp_any _ _ _).mono ?_; rintro e w' ⟨rfl, rfl⟩)
  go_ret
  exact ⟨rfl, (Below.refl _ _).alloc (Nat.le_refl _) _⟩
def fldV (_ : World) (d : Fld) (u : Value) : Prop := u = .agg #[.string d.name, .int .i64 d.ty, .bool d.must, .bool d.key] ∧ d.ok
set_option maxHeartbeats 2000000 in
theorem bs_fld (g : Nat) (caps : Array Value) (eg : ∀ args w, (callFunc g args).run Tryd.prog w = .ok (.enter g args) w) (tv : Value) (c : Fld → Int) (l : List Fld) (v : Value) (w : World) (hv : Sl fldL w v l)
    (hp : CmpB Tryd.prog g caps fldV tv c w) (pos : Nat) (hlen : l.length ≤ 1000) (hpos : pos ≤ l.length) (h1 : ∀ i d, i < pos → l[i]? = some d → c d < 0) (h2 : ∀ i d, pos ≤ i → l[i]? = some d → 0 ≤ c d) :
    Calls Tryd.prog 104 #[v, tv, .func (.func g) #[] caps] w fun e w' => e = .returned (.tuple #[.int .i64 pos, .bool (eqAt c l pos)]) ∧ Below w.heap.size w w' := by
  obtain ⟨A, cp, rfl, hlc, hcm⟩ := hv.form
  have hcm' : l.length ≤ 9223372036854775807 := by unfold maxLen at hcm; omega
  clear hcm hlc hcm'
  have P1 := Lib.hid h1
  have P2 := Lib.hid h2
  clear h1 h2
  go_enter Tryd.func104, Tryd.ntmps104
  go_wp2_with fail
  go_loopw [9, 10] (fun i j wr => ∃ lo hi : Nat, lo ≤ pos ∧ pos ≤ hi ∧ hi ≤ l.length ∧ i = .int .i64 lo ∧ j = .int .i64 hi ∧ Below w.heap.size w wr) (fun i j _ => (intOf j).toNat - (intOf i).toNat)
  case atStart => exact ⟨0, l.length, Nat.zero_le _, hpos, Nat.le_refl _, rfl, rfl, Below.refl _ _⟩
  case round =>
    obtain ⟨lo, hi, hlo, hhi, hhl, rfl, rfl, hb⟩ := hrel
    by_cases hlt : lo < hi
    · obtain ⟨d, hd⟩ : ∃ d, l[(lo + hi) / 2]? = some d := ⟨_, List.getElem?_eq_getElem (by omega)⟩
      have HD : Hid (l[(lo + hi) / 2]? = some d) := hd
      obtain ⟨b, o, rfl, hok, x0, x1, x2, x3⟩ := fld_at (hv.below hb) hd
      have hcall := hp d _ wr hb ⟨rfl, hok⟩
      clear hd hp hv
      have hm1 : (lo + hi) / 2 < hi := by omega
      have hm2 : lo ≤ (lo + hi) / 2 := by omega
      by_cases hc : c d < 0
      · have hmp : (lo + hi) / 2 < pos := by
          rcases Nat.lt_or_ge ((lo + hi) / 2) pos with h | h
          · exact h
          · have := P2.out _ _ h HD.out; omega
        go_wp2_with (go_at_fn g; refine hcall.mono ?_; rintro e w' ⟨rfl, hb2⟩)
        go_roundw
        case rel => exact ⟨(lo + hi) / 2 + 1, hi, by omega, hhi, hhl, by go_num, rfl, hb.trans (hb2.mono hb.size)⟩
        case measure => simp [intOf]; omega
      · have hmp : pos ≤ (lo + hi) / 2 := by
          rcases Nat.lt_or_ge ((lo + hi) / 2) pos with h | h
          · have := P1.out _ _ h HD.out; omega
          · exact h
        have hc' : 0 ≤ c d := by omega
        go_wp2_with (go_at_fn g; refine hcall.mono ?_; rintro e w' ⟨rfl, hb2⟩)
        go_roundw
        case rel => exact ⟨lo, (lo + hi) / 2, hlo, by omega, by omega, rfl, by go_num, hb.trans (hb2.mono hb.size)⟩
        case measure => simp [intOf]; omega
    · obtain rfl : lo = hi := by omega
      obtain rfl : lo = pos := by omega
      by_cases hl : lo < l.length
      · obtain ⟨d, hd⟩ : ∃ d, l[lo]? = some d := ⟨_, List.getElem?_eq_getElem hl⟩
        have HE : Hid (eqAt c l lo = (c d == 0)) := by unfold eqAt; rw [hd]; rfl
        have hl' : (lo : Int) < (l.length : Int) := by omega
        have hl2 : decide ((lo : Int) < (l.length : Int)) = true := by simpa using hl
        obtain ⟨b, o, rfl, hok, x0, x1, x2, x3⟩ := fld_at (hv.below hb) hd
        have hcall := hp d _ wr hb ⟨rfl, hok⟩
        clear hd hp hv
        go_wp2_with (go_at_fn g; refine hcall.mono ?_; rintro e w' ⟨rfl, hb2⟩)
        go_ret2
        exact ⟨by rw [HE.out]; rfl, hb.trans (hb2.mono hb.size)⟩
      · have HE : Hid (eqAt c l lo = false) := by unfold eqAt; rw [List.getElem?_eq_none (by omega)]; rfl
        have hl2 : decide ((lo : Int) < (l.length : Int)) = false := by simp; omega
        have hl3 : (l.length : Int) ≤ (lo : Int) := by omega
        clear hp hv
        go_wp2_with fail
        go_ret2
        exact ⟨by rw [HE.out]; rfl, hb⟩

def fldC (name : ByteArray) (f : Fld) : Int := cmpS f.name name
def fldLt (a b : Fld) : Bool := decide (cmpS a.name b.name < 0)
/-- One more field. -/
def putF (l : List Fld) (f : Fld) : Option (List Fld) :=
  if eqAt (fldC f.name) l (lowI (fldC f.name) l) then (if l[lowI (fldC f.name) l]? = some f then some l else none)
  else some (l.take (lowI (fldC f.name) l) ++ f :: l.drop (lowI (fldC f.name) l))
theorem fldC_mono (name : ByteArray) : ∀ a b, fldLt a b = true → 0 ≤ fldC name a → 0 ≤ fldC name b := by
  intro a b h h1
  unfold fldLt at h
  unfold fldC at h1 ⊢
  simp at h
  by_cases hb : cmpS b.name name < 0
  · have := cmpS_trans h hb
    omega
  · omega
/-- Strictly rising by name. -/
def Rise (l : List Fld) : Prop := l.Pairwise fun a b => cmpS a.name b.name < 0
theorem rise_chain {l : List Fld} (h : Rise l) : chain fldLt l = true := by
  rw [chain_iff]
  intro i a b ha hb
  obtain ⟨h1, rfl⟩ := List.getElem?_eq_some_iff.1 ha
  obtain ⟨h2, rfl⟩ := List.getElem?_eq_some_iff.1 hb
  have := List.pairwise_iff_getElem.1 h i (i + 1) h1 h2 (by omega)
  unfold fldLt; simpa using this
theorem putF_rise {l l' : List Fld} {f : Fld} (h : Rise l) (hp : putF l f = some l') : Rise l' := by
  unfold putF at hp
  have hc := rise_chain h
  generalize hk : lowI (fldC f.name) l = k at hp
  have h1 : ∀ i d, i < k → l[i]? = some d → cmpS d.name f.name < 0 := fun i d hi hd => low_lt (c := fldC f.name) (by rw [hk]; exact hi) hd
  have h2 : ∀ i d, k ≤ i → l[i]? = some d → 0 ≤ cmpS d.name f.name := fun i d hi hd => low_ge (c := fldC f.name) hc (fldC_mono f.name) (by rw [hk]; exact hi) hd
  split at hp
  · split at hp
    · injection hp with e; subst e; exact h
    · cases hp
  · rename_i he
    injection hp with e; subst e
    have h3 : ∀ i d, k ≤ i → l[i]? = some d → 0 < cmpS d.name f.name := by
      intro i d hi hd
      have hge := h2 i d hi hd
      by_cases h0 : cmpS d.name f.name = 0
      · exfalso
        by_cases hik : i = k
        · subst hik
          unfold eqAt at he
          rw [hd] at he
          simp [fldC, h0] at he
        · obtain ⟨hl, rfl⟩ := List.getElem?_eq_some_iff.1 hd
          have hkl : k < l.length := by omega
          have h4 := List.pairwise_iff_getElem.1 h k i hkl hl (by omega)
          have h5 := h2 k l[k] (Nat.le_refl _) (List.getElem?_eq_getElem hkl)
          rw [cmpS_zero] at h0
          rw [h0] at h4
          omega
      · omega
    unfold Rise
    rw [List.pairwise_append]
    refine ⟨h.sublist (List.take_sublist _ _), ?_, ?_⟩
    · rw [List.pairwise_cons]
      refine ⟨fun b hb => ?_, h.sublist (List.drop_sublist _ _)⟩
      obtain ⟨i, hi⟩ := List.mem_iff_getElem?.1 hb
      rw [List.getElem?_drop] at hi
      have := h3 _ _ (by omega) hi
      rw [cmpS_anti]; omega
    · intro a ha b hb
      obtain ⟨i, hi⟩ := List.mem_iff_getElem?.1 ha
      rw [List.getElem?_take] at hi
      split at hi
      · rename_i hik
        have hal := h1 i a hik hi
        rcases List.mem_cons.1 hb with rfl | hb
        · exact hal
        · obtain ⟨j, hj⟩ := List.mem_iff_getElem?.1 hb
          rw [List.getElem?_drop] at hj
          have := h3 _ _ (by omega) hj
          exact cmpS_trans hal (by rw [cmpS_anti]; omega)
      · cases hi
/-- All fields of some kinds, one behind the other. -/
def allF (fs : List Fld) : Option (List Fld) := fs.foldlM putF []
def fieldsOf (l : List Knd) (name : ByteArray) : Option (List Fld) :=
  allF ((kinL l name).flatMap fun s => match l.find? (fun k => decide (k.name = s)) with | some k => k.fields | none => [])
theorem mem_putF {l l' : List Fld} {f : Fld} (hp : putF l f = some l') : ∀ x, x ∈ l' ↔ x ∈ l ∨ x = f := by
  unfold putF at hp
  intro x
  split at hp
  · split at hp
    · rename_i hf
      injection hp with e; subst e
      constructor
      · exact .inl
      · rintro (h | rfl)
        · exact h
        · exact List.mem_of_getElem? hf
    · cases hp
  · injection hp with e; subst e
    generalize lowI (fldC f.name) l = k
    have : x ∈ l ↔ x ∈ l.take k ∨ x ∈ l.drop k := by rw [← List.mem_append, List.take_append_drop]
    rw [this, List.mem_append, List.mem_cons]
    constructor
    · rintro (h | h | h)
      · exact .inl (.inl h)
      · exact .inr h
      · exact .inl (.inr h)
    · rintro ((h | h) | h)
      · exact .inl h
      · exact .inr (.inr h)
      · exact .inr (.inl h)

def tyB (t : Int) : Bool := decide (1 ≤ t ∧ t ≤ 3)
theorem typ_any (t : Int) (w : World) :
    Calls Tryd.prog 102 #[.int .i64 t] w fun e w' => e = .returned (.bool (tyB t)) ∧ w = w' := by
  by_cases h1 : 1 ≤ t
  · by_cases h2 : t ≤ 3
    · have HB : Hid (tyB t = true) := by unfold tyB Hid; simp [h1, h2]
      have d1 : decide (1 ≤ t) = true := decide_eq_true h1
      have d2 : decide (t ≤ 3) = true := decide_eq_true h2
      go_enter Tryd.func102, Tryd.ntmps102
      go_wp2_with fail
      go_ret
      exact ⟨by rw [HB.out]; rfl, rfl⟩
    · have HB : Hid (tyB t = false) := by unfold tyB Hid; simp [h2]
      have d1 : decide (1 ≤ t) = true := decide_eq_true h1
      have d2 : decide (t ≤ 3) = false := decide_eq_false h2
      have h3 : 3 < t := by omega
      go_enter Tryd.func102, Tryd.ntmps102
      go_wp2_with fail
      go_ret
      exact ⟨by rw [HB.out]; rfl, rfl⟩
  · have HB : Hid (tyB t = false) := by unfold tyB Hid; simp [h1]
    have d1 : decide (1 ≤ t) = false := decide_eq_false h1
    have h3 : t < 1 := by omega
    go_enter Tryd.func102, Tryd.ntmps102
    go_wp2_with fail
    go_ret
    exact ⟨by rw [HB.out]; rfl, rfl⟩
/-- What is wrong with one field, behind another one. -/
def fldE (p : Option Fld) (f : Fld) : Int :=
  if nameE f.name = 0 then (if tyB f.ty then (if f.key && !f.must then 3 else match p with | some q => (if ltS q.name f.name then 0 else 7) | none => 0) else 8) else nameE f.name
def fldsE : Option Fld → List Fld → Int
  | _, [] => 0
  | p, f :: r => if fldE p f = 0 then fldsE (some f) r else fldE p f
theorem prev_succ {D : Type} {l : List D} {k : Nat} {d : D} (h : l[k]? = some d) : prev l (k + 1) = some d := by
  unfold prev; simpa using h
theorem cell_box4 (w : World) (a b c d : Value) (t : TypeId) : (w.alloc (.cells #[a, b, c, d] t)).cell? ⟨w.heap.size, 0, none⟩ = some a ∧ (w.alloc (.cells #[a, b, c, d] t)).cell? ⟨w.heap.size, 1, none⟩ = some b ∧
    (w.alloc (.cells #[a, b, c, d] t)).cell? ⟨w.heap.size, 2, none⟩ = some c ∧ (w.alloc (.cells #[a, b, c, d] t)).cell? ⟨w.heap.size, 3, none⟩ = some d :=
  ⟨by rw [World.cell?_alloc_at _ _ _ _ rfl]; rfl, by rw [World.cell?_alloc_at _ _ _ _ rfl]; rfl, by rw [World.cell?_alloc_at _ _ _ _ rfl]; rfl, by rw [World.cell?_alloc_at _ _ _ _ rfl]; rfl⟩
set_option maxHeartbeats 4000000 in
theorem flds_any (l : List Fld) (v : Value) (w : World) (hv : Sl fldL w v l) :
    Calls Tryd.prog 83 #[v] w fun e w' => e = .returned (errV (fldsE none l)) ∧ Below w.heap.size w w' := by
  obtain ⟨A, c, rfl, hlc, hcm⟩ := hv.form
  unfold maxLen at hcm
  go_enter Tryd.func83, Tryd.ntmps83
  go_wp2_with fail
  go_loopw [8] (fun i wr => ∃ k : Nat, k ≤ l.length ∧ i = .int .i64 k ∧ Below w.heap.size w wr ∧ Hid (fldsE none l = fldsE (prev l k) (l.drop k))) (fun i _ => l.length - (intOf i).toNat)
  case atStart => exact ⟨0, Nat.zero_le _, rfl, Below.refl _ _, rfl⟩
  case round =>
    obtain ⟨k, hk, rfl, hb, HR⟩ := hrel
    by_cases hlt : k < l.length
    · obtain ⟨d, hd⟩ : ∃ d, l[k]? = some d := ⟨_, List.getElem?_eq_getElem hlt⟩
      obtain ⟨b, o, rfl, hok, x0, x1, x2, x3⟩ := fld_at (hv.below hb) hd
      obtain ⟨z0, z1, z2, z3⟩ := cell_box4 wr (.string d.name) (.int .i64 d.ty) (.bool d.must) (.bool d.key) 59
      have hlt' : (k : Int) < (l.length : Int) := by omega
      have HS : Hid (fldsE none l = if fldE (prev l k) d = 0 then fldsE (prev l (k + 1)) (l.drop (k + 1)) else fldE (prev l k) d) := by
        unfold Hid; rw [HR.out, drop_cons hd, fldsE, prev_succ hd]
      by_cases hn : nameE d.name = 0
      · have hE : errV (nameE d.name) = .nilIface := errV_zero hn
        have HQ : Hid (fldE (prev l k) d = if tyB d.ty then (if d.key && !d.must then 3 else match prev l k with | some q => (if ltS q.name d.name then 0 else 7) | none => 0) else 8) := by
          unfold Hid fldE; rw [if_pos hn]
        have HD := Lib.hid hd
        have HV := Lib.hid hv
        clear hn hd hv
        cases hT : tyB d.ty with
        | false =>
          have HE : Hid (errV (fldsE none l) = .iface 76 (.int .i64 8)) := by
            have : fldE (prev l k) d = 8 := by rw [HQ.out, hT]; rfl
            unfold Hid; rw [HS.out, this]; rfl
          clear HQ
          go_wp2_with fail
          refine (name_any d.name _ hok.1).mono ?_
          rintro e w1 ⟨rfl, hb1⟩
          rw [hE]
          have hb2 : Below w.heap.size w w1 := (hb.alloc hb.size _).trans (hb1.mono (by have := hb.size; simp; omega))
          have q0 := cell_below hb1 z0
          have q1 := cell_below hb1 z1
          have q2 := cell_below hb1 z2
          have q3 := cell_below hb1 z3
          try have y1 := cell_below hb1 (cell_below ((Below.refl _ _).alloc (Nat.le_refl _) _) y0)
          go_wp2_with (go_at_call 102; refine (typ_any _ _).mono ?_; rw [hT]; rintro e w2 ⟨rfl, rfl⟩)
          go_ret
          exact ⟨by rw [HE.out]; rfl, hb2⟩
        | true =>
          have HQ2 : Hid (fldE (prev l k) d = if d.key && !d.must then 3 else match prev l k with | some q => (if ltS q.name d.name then 0 else 7) | none => 0) := by
            unfold Hid; rw [HQ.out, hT]; rfl
          clear HQ
          cases hK : (d.key && !d.must) with
          | true =>
            have HE : Hid (errV (fldsE none l) = .iface 76 (.int .i64 3)) := by
              have : fldE (prev l k) d = 3 := by rw [HQ2.out, hK]; rfl
              unfold Hid; rw [HS.out, this]; rfl
            clear HQ2
            have hk1 : d.key = true := by cases h : d.key <;> simp [h] at hK ⊢
            have hk2 : d.must = false := by cases h : d.must <;> simp [h] at hK ⊢
            clear hK
            rw [hk1, hk2] at z0 z1 z2 z3
            rw [hk1] at x3
            rw [hk2] at x2
            go_wp2_with fail
            refine (name_any d.name _ hok.1).mono ?_
            rintro e w1 ⟨rfl, hb1⟩
            rw [hE]
            have hb2 : Below w.heap.size w w1 := (hb.alloc hb.size _).trans (hb1.mono (by have := hb.size; simp; omega))
            have q0 := cell_below hb1 z0
            have q1 := cell_below hb1 z1
            have q2 := cell_below hb1 z2
            have q3 := cell_below hb1 z3
            try have y1 := cell_below hb1 (cell_below ((Below.refl _ _).alloc (Nat.le_refl _) _) y0)
            go_wp2_with (go_at_call 102; refine (typ_any _ _).mono ?_; rw [hT]; rintro e w2 ⟨rfl, rfl⟩)
            go_ret
            exact ⟨by rw [HE.out]; rfl, hb2⟩
          | false =>
            have HQ3 : Hid (fldE (prev l k) d = match prev l k with | some q => (if ltS q.name d.name then 0 else 7) | none => 0) := by
              unfold Hid; rw [HQ2.out, hK]; rfl
            clear HQ2
            have hkm : d.key = false ∨ (d.key = true ∧ d.must = true) := by cases h : d.key <;> simp [h] at hK ⊢; exact hK
            clear hK
            by_cases h0 : k = 0
            · subst h0
              simp only [Nat.zero_mul, Nat.add_zero] at x0 x1 x2 x3
              have HN : Hid (fldsE none l = fldsE (prev l (0 + 1)) (l.drop (0 + 1))) := by unfold Hid; rw [HS.out, HQ3.out]; rfl
              clear HQ3 HS
              rcases hkm with hk1 | ⟨hk1, hk2⟩
              · rw [hk1] at z0 z1 z2 z3 x3
                go_wp2_with fail
                refine (name_any d.name _ hok.1).mono ?_
                rintro e w1 ⟨rfl, hb1⟩
                rw [hE]
                have hb2 : Below w.heap.size w w1 := (hb.alloc hb.size _).trans (hb1.mono (by have := hb.size; simp; omega))
                have q0 := cell_below hb1 z0
                have q1 := cell_below hb1 z1
                have q2 := cell_below hb1 z2
                have q3 := cell_below hb1 z3
                try have y1 := cell_below hb1 (cell_below ((Below.refl _ _).alloc (Nat.le_refl _) _) y0)
                go_wp2_with (go_at_call 102; refine (typ_any _ _).mono ?_; rw [hT]; rintro e w2 ⟨rfl, rfl⟩)
                go_quiet (fail)
                go_wp2_with fail
                go_roundw
                case rel => exact ⟨1, by omega, by go_num, below_drewN hb2 _, HN⟩
                case measure => simp [intOf]; omega
              · rw [hk1, hk2] at z0 z1 z2 z3
                rw [hk1] at x3
                rw [hk2] at x2
                go_wp2_with fail
                refine (name_any d.name _ hok.1).mono ?_
                rintro e w1 ⟨rfl, hb1⟩
                rw [hE]
                have hb2 : Below w.heap.size w w1 := (hb.alloc hb.size _).trans (hb1.mono (by have := hb.size; simp; omega))
                have q0 := cell_below hb1 z0
                have q1 := cell_below hb1 z1
                have q2 := cell_below hb1 z2
                have q3 := cell_below hb1 z3
                try have y1 := cell_below hb1 (cell_below ((Below.refl _ _).alloc (Nat.le_refl _) _) y0)
                go_wp2_with (go_at_call 102; refine (typ_any _ _).mono ?_; rw [hT]; rintro e w2 ⟨rfl, rfl⟩)
                go_quiet (fail)
                go_wp2_with fail
                go_roundw
                case rel => exact ⟨1, by omega, by go_num, below_drewN hb2 _, HN⟩
                case measure => simp [intOf]; omega
            · obtain ⟨q, hq⟩ : ∃ q, l[k - 1]? = some q := ⟨_, List.getElem?_eq_getElem (by omega)⟩
              have hkd0 : (0 : Int) < (k : Int) := by omega
              have hkd1 : decide ((0 : Int) < (k : Int)) = true := decide_eq_true hkd0
              have hkd2 : decide (0 < k) = true := decide_eq_true (by omega)
              have hpv : prev l k = some q := by
                obtain ⟨m, rfl⟩ : ∃ m, k = m + 1 := ⟨k - 1, by omega⟩
                exact hq
              obtain ⟨b', o', hA', _, y0, _⟩ := fld_at (HV.out.below hb) hq
              injection hA' with e5
              injection e5 with e6 e7
              subst e6; subst e7
              cases hL : ltS q.name d.name with
              | true =>
                have HN : Hid (fldsE none l = fldsE (prev l (k + 1)) (l.drop (k + 1))) := by unfold Hid; rw [HS.out, HQ3.out, hpv]; simp [hL]
                have hL' : Op.bytesLess q.name.toList d.name.toList = true := hL
                clear HQ3 HS hq hpv hL
                rcases hkm with hk1 | ⟨hk1, hk2⟩
                · rw [hk1] at z0 z1 z2 z3 x3
                  go_wp2_with fail
                  refine (name_any d.name _ hok.1).mono ?_
                  rintro e w1 ⟨rfl, hb1⟩
                  rw [hE]
                  have hb2 : Below w.heap.size w w1 := (hb.alloc hb.size _).trans (hb1.mono (by have := hb.size; simp; omega))
                  have q0 := cell_below hb1 z0
                  have q1 := cell_below hb1 z1
                  have q2 := cell_below hb1 z2
                  have q3 := cell_below hb1 z3
                  try have y1 := cell_below hb1 (cell_below ((Below.refl _ _).alloc (Nat.le_refl _) _) y0)
                  go_wp2_with (go_at_call 102; refine (typ_any _ _).mono ?_; rw [hT]; rintro e w2 ⟨rfl, rfl⟩)
                  go_quiet (fail)
                  go_wp2_with fail
                  go_roundw
                  case rel => exact ⟨k + 1, by omega, by go_num, below_drewN hb2 _, HN⟩
                  case measure => simp [intOf]; omega
                · rw [hk1, hk2] at z0 z1 z2 z3
                  rw [hk1] at x3
                  rw [hk2] at x2
                  go_wp2_with fail
                  refine (name_any d.name _ hok.1).mono ?_
                  rintro e w1 ⟨rfl, hb1⟩
                  rw [hE]
                  have hb2 : Below w.heap.size w w1 := (hb.alloc hb.size _).trans (hb1.mono (by have := hb.size; simp; omega))
                  have q0 := cell_below hb1 z0
                  have q1 := cell_below hb1 z1
                  have q2 := cell_below hb1 z2
                  have q3 := cell_below hb1 z3
                  try have y1 := cell_below hb1 (cell_below ((Below.refl _ _).alloc (Nat.le_refl _) _) y0)
                  go_wp2_with (go_at_call 102; refine (typ_any _ _).mono ?_; rw [hT]; rintro e w2 ⟨rfl, rfl⟩)
                  go_quiet (fail)
                  go_wp2_with fail
                  go_roundw
                  case rel => exact ⟨k + 1, by omega, by go_num, below_drewN hb2 _, HN⟩
                  case measure => simp [intOf]; omega
              | false =>
                have HE : Hid (errV (fldsE none l) = .iface 76 (.int .i64 7)) := by unfold Hid; rw [HS.out, HQ3.out, hpv]; simp [hL, errV]
                have hL' : Op.bytesLess q.name.toList d.name.toList = false := hL
                clear HQ3 HS hq hpv hL
                rcases hkm with hk1 | ⟨hk1, hk2⟩
                · rw [hk1] at z0 z1 z2 z3 x3
                  go_wp2_with fail
                  refine (name_any d.name _ hok.1).mono ?_
                  rintro e w1 ⟨rfl, hb1⟩
                  rw [hE]
                  have hb2 : Below w.heap.size w w1 := (hb.alloc hb.size _).trans (hb1.mono (by have := hb.size; simp; omega))
                  have q0 := cell_below hb1 z0
                  have q1 := cell_below hb1 z1
                  have q2 := cell_below hb1 z2
                  have q3 := cell_below hb1 z3
                  try have y1 := cell_below hb1 (cell_below ((Below.refl _ _).alloc (Nat.le_refl _) _) y0)
                  go_wp2_with (go_at_call 102; refine (typ_any _ _).mono ?_; rw [hT]; rintro e w2 ⟨rfl, rfl⟩)
                  go_quiet (fail)
                  go_wp2_with fail
                  go_ret
                  exact ⟨by rw [HE.out]; rfl, below_drewN hb2 _⟩
                · rw [hk1, hk2] at z0 z1 z2 z3
                  rw [hk1] at x3
                  rw [hk2] at x2
                  go_wp2_with fail
                  refine (name_any d.name _ hok.1).mono ?_
                  rintro e w1 ⟨rfl, hb1⟩
                  rw [hE]
                  have hb2 : Below w.heap.size w w1 := (hb.alloc hb.size _).trans (hb1.mono (by have := hb.size; simp; omega))
                  have q0 := cell_below hb1 z0
                  have q1 := cell_below hb1 z1
                  have q2 := cell_below hb1 z2
                  have q3 := cell_below hb1 z3
                  try have y1 := cell_below hb1 (cell_below ((Below.refl _ _).alloc (Nat.le_refl _) _) y0)
                  go_wp2_with (go_at_call 102; refine (typ_any _ _).mono ?_; rw [hT]; rintro e w2 ⟨rfl, rfl⟩)
                  go_quiet (fail)
                  go_wp2_with fail
                  go_ret
                  exact ⟨by rw [HE.out]; rfl, below_drewN hb2 _⟩
      · have hE : errV (nameE d.name) = .iface 76 (.int .i64 (nameE d.name)) := errV_some hn
        have HE : Hid (errV (fldsE none l) = .iface 76 (.int .i64 (nameE d.name))) := by
          have : fldE (prev l k) d = nameE d.name := by unfold fldE; rw [if_neg hn]
          unfold Hid; rw [HS.out, this, if_neg hn]; exact hE
        clear hn hd hv
        go_wp2_with fail
        refine (name_any d.name _ hok.1).mono ?_
        rintro e w1 ⟨rfl, hb1⟩
        rw [hE]
        have hb2 : Below w.heap.size w w1 := (hb.alloc hb.size _).trans (hb1.mono (by have := hb.size; simp; omega))
        have q0 := cell_below hb1 z0
        have q1 := cell_below hb1 z1
        have q2 := cell_below hb1 z2
        have q3 := cell_below hb1 z3
        try have y1 := cell_below hb1 (cell_below ((Below.refl _ _).alloc (Nat.le_refl _) _) y0)
        go_wp2_with fail
        go_ret
        exact ⟨by rw [HE.out]; rfl, hb2⟩
    · obtain rfl : k = l.length := by omega
      have HE : Hid (errV (fldsE none l) = .nilIface) := by unfold Hid; rw [HR.out, List.drop_length]; rfl
      clear hv
      go_wp2_with fail
      go_ret
      exact ⟨by rw [HE.out]; rfl, hb⟩
end Go.Proofs.YtgioaphnadncfaaDoor
