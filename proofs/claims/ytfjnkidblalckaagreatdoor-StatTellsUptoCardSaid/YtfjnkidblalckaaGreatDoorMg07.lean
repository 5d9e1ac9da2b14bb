/- Parts: FindA, FindB, KinE, Cmp, KinF. -/
import Derived.Test.YtfjnkidblalckaaGreatDoorMg06
import Derived.Test.YtfjnkidblalckaaGreatDoorMg03
import Derived.Test.YtfjnkidblalckaaGreatDoorMg05
/- Contracts: slices.BinarySearchFunc over nodes and properties, graph.Find, record.Find. -/
namespace Go.Proofs.YtfjnkidblalckaaGreatDoor
open Go.RowKit

/-- What is asked of a comparing function value. -/
def CmpB {D : Type} (P : Program) (g : Nat) (caps : Array Value) (V : World → D → Value → Prop) (tv : Value) (c : D → Int) (w : World) : Prop :=
  ∀ x u wx, Below w.heap.size w wx → V wx x u → Calls P g (#[u, tv] ++ caps) wx (fun e w' => e = .returned (.int .i64 (c x)) ∧ Below wx.heap.size wx w')
/-- Is there one at that place that compares equal? -/
def eqAt {D : Type} (c : D → Int) (l : List D) (pos : Nat) : Bool := match l[pos]? with | some d => c d == 0 | none => false

def nodV (w : World) (d : Nod) (u : Value) : Prop := ∃ v, u = .agg #[.int .i64 d.id, .string d.kind, v] ∧ I64 d.id ∧ Sm d.kind ∧ Sl prpL w v d.props
def prpV (_ : World) (d : Prp) (u : Value) : Prop := u = .agg #[.string d.name, .int .i64 d.v.ty, .int .i64 d.v.n, .string d.v.s] ∧ d.ok


set_option maxHeartbeats 2000000 in
theorem bs_nod (g : Nat) (caps : Array Value) (eg : ∀ args w, (callFunc g args).run Tryz.prog w = .ok (.enter g args) w) (tv : Value) (c : Nod → Int) (l : List Nod) (v : Value) (w : World) (hv : Sl nodL w v l)
    (hp : CmpB Tryz.prog g caps nodV tv c w) (pos : Nat) (hlen : l.length ≤ 1000) (hpos : pos ≤ l.length) (h1 : ∀ i d, i < pos → l[i]? = some d → c d < 0) (h2 : ∀ i d, pos ≤ i → l[i]? = some d → 0 ≤ c d) :
    Calls Tryz.prog 40 #[v, tv, .func (.func g) #[] caps] w fun e w' => e = .returned (.tuple #[.int .i64 pos, .bool (eqAt c l pos)]) ∧ Below w.heap.size w w' := by
  obtain ⟨A, cp, rfl, hlc, hcm⟩ := hv.form
  have hcm' : l.length ≤ 9223372036854775807 := by unfold maxLen at hcm; omega
  clear hcm hlc hcm'
  have P1 := Lib.hid h1
  have P2 := Lib.hid h2
  clear h1 h2
  go_enter Tryz.func40, Tryz.ntmps40
  go_wp2_with fail
  go_loopw [9, 10] (fun i j wr => ∃ lo hi : Nat, lo ≤ pos ∧ pos ≤ hi ∧ hi ≤ l.length ∧ i = .int .i64 lo ∧ j = .int .i64 hi ∧ Below w.heap.size w wr) (fun i j _ => (intOf j).toNat - (intOf i).toNat)
  case atStart => exact ⟨0, l.length, Nat.zero_le _, hpos, Nat.le_refl _, rfl, rfl, Below.refl _ _⟩
  case round =>
    obtain ⟨lo, hi, hlo, hhi, hhl, rfl, rfl, hb⟩ := hrel
    by_cases hlt : lo < hi
    · obtain ⟨d, hd⟩ : ∃ d, l[(lo + hi) / 2]? = some d := ⟨_, List.getElem?_eq_getElem (by omega)⟩
      have HD : Hid (l[(lo + hi) / 2]? = some d) := hd
      obtain ⟨b, o, rfl, u, hid, hkd, hpr, x0, x1, x2⟩ := nod_at (hv.below hb) hd
      obtain ⟨Ar, cr, rfl, _, _⟩ := hpr.form
      have hcall := hp d _ wr hb ⟨_, rfl, hid, hkd, hpr⟩
      clear hpr
      clear hd hp hv
      have hm1 : (lo + hi) / 2 < hi := by omega
      have hm2 : lo ≤ (lo + hi) / 2 := by omega
      by_cases hc : c d < 0
      · have hmp : (lo + hi) / 2 < pos := by
          rcases Nat.lt_or_ge ((lo + hi) / 2) pos with h | h
          · exact h
          · have := P2.out _ _ h HD.out; omega
        go_wp2_with (go_at_fn g; refine hcall.mono ?_; rintro e w' ⟨rfl, hb2⟩)
        go_roundw
        case rel => exact ⟨(lo + hi) / 2 + 1, hi, by omega, hhi, hhl, by go_num, rfl, hb.trans (hb2.mono hb.size)⟩
        case measure => simp [intOf]; omega
      · have hmp : pos ≤ (lo + hi) / 2 := by
          rcases Nat.lt_or_ge ((lo + hi) / 2) pos with h | h
          · have := P1.out _ _ h HD.out; omega
          · exact h
        have hc' : 0 ≤ c d := by omega
        go_wp2_with (go_at_fn g; refine hcall.mono ?_; rintro e w' ⟨rfl, hb2⟩)
        go_roundw
        case rel => exact ⟨lo, (lo + hi) / 2, hlo, by omega, by omega, rfl, by go_num, hb.trans (hb2.mono hb.size)⟩
        case measure => simp [intOf]; omega
    · obtain rfl : lo = hi := by omega
      obtain rfl : lo = pos := by omega
      by_cases hl : lo < l.length
      · obtain ⟨d, hd⟩ : ∃ d, l[lo]? = some d := ⟨_, List.getElem?_eq_getElem hl⟩
        have HE : Hid (eqAt c l lo = (c d == 0)) := by unfold eqAt; rw [hd]; rfl
        have hl' : (lo : Int) < (l.length : Int) := by omega
        have hl2 : decide ((lo : Int) < (l.length : Int)) = true := by simpa using hl
        obtain ⟨b, o, rfl, u, hid, hkd, hpr, x0, x1, x2⟩ := nod_at (hv.below hb) hd
        obtain ⟨Ar, cr, rfl, _, _⟩ := hpr.form
        have hcall := hp d _ wr hb ⟨_, rfl, hid, hkd, hpr⟩
        clear hpr
        clear hd hp hv
        go_wp2_with (go_at_fn g; refine hcall.mono ?_; rintro e w' ⟨rfl, hb2⟩)
        go_ret2
        exact ⟨by rw [HE.out]; rfl, hb.trans (hb2.mono hb.size)⟩
      · have HE : Hid (eqAt c l lo = false) := by unfold eqAt; rw [List.getElem?_eq_none (by omega)]; rfl
        have hl2 : decide ((lo : Int) < (l.length : Int)) = false := by simp; omega
        have hl3 : (l.length : Int) ≤ (lo : Int) := by omega
        clear hp hv
        go_wp2_with fail
        go_ret2
        exact ⟨by rw [HE.out]; rfl, hb⟩
end Go.Proofs.YtfjnkidblalckaaGreatDoor

/- Contracts: graph.Find and record.Find: where a node of a number, or a property of a name, stands in a list that rises. -/
namespace Go.Proofs.YtfjnkidblalckaaGreatDoor
open Go.RowKit

/-- The first place at which c is not below 0. -/
def lowI {D : Type} (c : D → Int) (l : List D) : Nat := l.findIdx (fun d => decide (0 ≤ c d))
theorem lowI_le {D : Type} (c : D → Int) (l : List D) : lowI c l ≤ l.length := List.findIdx_le_length
theorem low_lt {D : Type} {c : D → Int} {l : List D} {i : Nat} {d : D} (h : i < lowI c l) (hi : l[i]? = some d) : c d < 0 := by
  obtain ⟨hl, rfl⟩ := List.getElem?_eq_some_iff.1 hi
  have := List.not_of_lt_findIdx h
  simp at this
  omega
theorem low_ge {D : Type} {R : D → D → Bool} {c : D → Int} {l : List D} (hc : chain R l = true) (mono : ∀ a b, R a b = true → 0 ≤ c a → 0 ≤ c b) :
    ∀ {i : Nat} {d : D}, lowI c l ≤ i → l[i]? = some d → 0 ≤ c d := by
  intro i
  induction i with
  | zero =>
    intro d h hi
    obtain ⟨hl, rfl⟩ := List.getElem?_eq_some_iff.1 hi
    have h0 : lowI c l = 0 := by omega
    have := List.findIdx_getElem (xs := l) (p := fun d => decide (0 ≤ c d)) (w := by show lowI c l < _; omega)
    simp only [decide_eq_true_eq] at this
    have e : List.findIdx (fun d => decide (0 ≤ c d)) l = 0 := h0
    simp only [e] at this
    exact this
  | succ i ih =>
    intro d h hi
    rcases Nat.lt_or_ge i (lowI c l) with h1 | h1
    · have h0 : lowI c l = i + 1 := by omega
      obtain ⟨hl, rfl⟩ := List.getElem?_eq_some_iff.1 hi
      have := List.findIdx_getElem (xs := l) (p := fun d => decide (0 ≤ c d)) (w := by show lowI c l < _; omega)
      simp only [decide_eq_true_eq] at this
      have e : List.findIdx (fun d => decide (0 ≤ c d)) l = i + 1 := h0
      simp only [e] at this
      exact this
    · have hl : i < l.length := by have := (List.getElem?_eq_some_iff.1 hi).1; omega
      have h2 := ih (d := l[i]) h1 (List.getElem?_eq_getElem hl)
      exact mono _ _ (chain_iff.1 hc i _ _ (List.getElem?_eq_getElem hl) hi) h2

/-! ### Nodes by number -/
def nodLt (a b : Nod) : Bool := decide (a.id < b.id)
def nodC (id : Int) (n : Nod) : Int := cmpI n.id id
def fpos (l : List Nod) (id : Int) : Nat := lowI (nodC id) l
def fhas (l : List Nod) (id : Int) : Bool := eqAt (nodC id) l (fpos l id)
theorem cmpI_neg {a b : Int} : cmpI a b < 0 ↔ a < b := by unfold cmpI; split <;> (try split) <;> omega
theorem cmpI_zero {a b : Int} : cmpI a b = 0 ↔ a = b := by unfold cmpI; split <;> (try split) <;> omega
theorem nodC_mono (id : Int) : ∀ a b, nodLt a b = true → 0 ≤ nodC id a → 0 ≤ nodC id b := by
  intro a b h h1
  unfold nodLt at h
  simp at h
  unfold nodC at h1 ⊢
  have := @cmpI_neg a.id id
  have := @cmpI_neg b.id id
  omega

theorem find1_any (d : Nod) (id : Int) (u : Value) (w : World) (hu : nodV w d u) :
    Calls Tryz.prog 41 #[u, .int .i64 id] w fun e w' => e = .returned (.int .i64 (nodC id d)) ∧ Below w.heap.size w w' := by
  obtain ⟨v, rfl, h1, h2, h3⟩ := hu
  obtain ⟨A, c, rfl, _, _⟩ := h3.form
  have HE : Hid (nodC id d = cmpI d.id id) := rfl
  go_enter Tryz.func41, Tryz.ntmps41
  go_wp2_with (go_at_call 42; refine (cmp_any _ _ _).mono ?_; rintro e w' ⟨rfl, rfl⟩)
  go_ret
  exact ⟨by rw [HE.out]; rfl, (Below.refl _ _).alloc (Nat.le_refl _) _⟩

theorem find_any (g : Grf) (vn vt : Value) (w : World) (hg : GrfR w vn vt g) (id : Int) (hc : chain nodLt g.nodes = true) (hl : g.nodes.length ≤ 1000) :
    Calls Tryz.prog 28 #[.agg #[vn, vt], .int .i64 id] w fun e w' => e = .returned (.tuple #[.int .i64 (fpos g.nodes id), .bool (fhas g.nodes id)]) ∧ Below w.heap.size w w' := by
  obtain ⟨hn, ht⟩ := hg
  obtain ⟨A, c, rfl, _, _⟩ := hn.form
  obtain ⟨A', c', rfl, _, _⟩ := ht.form
  have hb0 : Below w.heap.size w (w.alloc (.cells #[.slice A g.nodes.length c, .slice A' g.ties.length c'] 29)) := (Below.refl _ _).alloc (Nat.le_refl _) _
  have hcall := bs_nod 41 #[] (by intro args w; kernel_rfl) (.int .i64 id) (nodC id) g.nodes _ _ (hn.below hb0) (fun x u wx _ hu => find1_any x id u wx hu) (fpos g.nodes id) hl (lowI_le _ _)
    (fun i d h hi => low_lt h hi) (fun i d h hi => low_ge hc (nodC_mono id) h hi)
  have HE : Hid (fhas g.nodes id = eqAt (nodC id) g.nodes (fpos g.nodes id)) := rfl
  clear hn ht hc
  generalize eqAt (nodC id) g.nodes (fpos g.nodes id) = B at hcall HE
  generalize fpos g.nodes id = K at hcall HE
  go_enter Tryz.func28, Tryz.ntmps28
  go_wp2_with (go_at_call 40; refine hcall.mono ?_; rintro e w' ⟨rfl, hb⟩)
  go_ret2
  exact ⟨by rw [HE.out]; rfl, hb0.trans (hb.mono hb0.size)⟩

/-! ### Properties by name -/
def prpLt (a b : Prp) : Bool := ltS a.name b.name
def prpC (nm : ByteArray) (p : Prp) : Int := cmpS p.name nm
def rpos (l : List Prp) (nm : ByteArray) : Nat := lowI (prpC nm) l
def rhas (l : List Prp) (nm : ByteArray) : Bool := eqAt (prpC nm) l (rpos l nm)
end Go.Proofs.YtfjnkidblalckaaGreatDoor

/- Contracts: kind.FieldsOf's comparison and its binary search. -/
namespace Go.Proofs.YtfjnkidblalckaaGreatDoor
open Go.RowKit

theorem fieldsOf1_any (d : Fld) (name : ByteArray) (w : World) :
    Calls Tryz.prog 90 #[.agg #[.string d.name, .int .i64 d.ty, .bool d.must, .bool d.key], .string name] w fun e w' => e = .returned (.int .i64 (cmpS d.name name)) ∧ Below w.heap.size w w' := by
  go_enter Tryz.func90, Tryz.ntmps90
  go_wp2_with (go_at_call 55; refine (scmp_any _ _ _).mono ?_; rintro e w' ⟨rfl, rfl⟩)
  go_ret
  exact ⟨rfl, (Below.refl _ _).alloc (Nat.le_refl _) _⟩
def fldV (_ : World) (d : Fld) (u : Value) : Prop := u = .agg #[.string d.name, .int .i64 d.ty, .bool d.must, .bool d.key] ∧ d.ok
set_option maxHeartbeats 2000000 in
theorem bs_fld (g : Nat) (caps : Array Value) (eg : ∀ args w, (callFunc g args).run Tryz.prog w = .ok (.enter g args) w) (tv : Value) (c : Fld → Int) (l : List Fld) (v : Value) (w : World) (hv : Sl fldL w v l)
    (hp : CmpB Tryz.prog g caps fldV tv c w) (pos : Nat) (hlen : l.length ≤ 1000) (hpos : pos ≤ l.length) (h1 : ∀ i d, i < pos → l[i]? = some d → c d < 0) (h2 : ∀ i d, pos ≤ i → l[i]? = some d → 0 ≤ c d) :
    Calls Tryz.prog 89 #[v, tv, .func (.func g) #[] caps] w fun e w' => e = .returned (.tuple #[.int .i64 pos, .bool (eqAt c l pos)]) ∧ Below w.heap.size w w' := by
  obtain ⟨A, cp, rfl, hlc, hcm⟩ := hv.form
  have hcm' : l.length ≤ 9223372036854775807 := by unfold maxLen at hcm; omega
  clear hcm hlc hcm'
  have P1 := Lib.hid h1
  have P2 := Lib.hid h2
  clear h1 h2
  go_enter Tryz.func89, Tryz.ntmps89
  go_wp2_with fail
  go_loopw [9, 10] (fun i j wr => ∃ lo hi : Nat, lo ≤ pos ∧ pos ≤ hi ∧ hi ≤ l.length ∧ i = .int .i64 lo ∧ j = .int .i64 hi ∧ Below w.heap.size w wr) (fun i j _ => (intOf j).toNat - (intOf i).toNat)
  case atStart => exact ⟨0, l.length, Nat.zero_le _, hpos, Nat.le_refl _, rfl, rfl, Below.refl _ _⟩
  case round =>
    obtain ⟨lo, hi, hlo, hhi, hhl, rfl, rfl, hb⟩ := hrel
    by_cases hlt : lo < hi
    · obtain ⟨d, hd⟩ : ∃ d, l[(lo + hi) / 2]? = some d := ⟨_, List.getElem?_eq_getElem (by omega)⟩
      have HD : Hid (l[(lo + hi) / 2]? = some d) := hd
      obtain ⟨b, o, rfl, hok, x0, x1, x2, x3⟩ := fld_at (hv.below hb) hd
      have hcall := hp d _ wr hb ⟨rfl, hok⟩
      clear hd hp hv
      have hm1 : (lo + hi) / 2 < hi := by omega
      have hm2 : lo ≤ (lo + hi) / 2 := by omega
      by_cases hc : c d < 0
      · have hmp : (lo + hi) / 2 < pos := by
          rcases Nat.lt_or_ge ((lo + hi) / 2) pos with h | h
          · exact h
          · have := P2.out _ _ h HD.out; omega
        go_wp2_with (go_at_fn g; refine hcall.mono ?_; rintro e w' ⟨rfl, hb2⟩)
        go_roundw
        case rel => exact ⟨(lo + hi) / 2 + 1, hi, by omega, hhi, hhl, by go_num, rfl, hb.trans (hb2.mono hb.size)⟩
        case measure => simp [intOf]; omega
      · have hmp : pos ≤ (lo + hi) / 2 := by
          rcases Nat.lt_or_ge ((lo + hi) / 2) pos with h | h
          · have := P1.out _ _ h HD.out; omega
          · exact h
        have hc' : 0 ≤ c d := by omega
        go_wp2_with (go_at_fn g; refine hcall.mono ?_; rintro e w' ⟨rfl, hb2⟩)
        go_roundw
        case rel => exact ⟨lo, (lo + hi) / 2, hlo, by omega, by omega, rfl, by go_num, hb.trans (hb2.mono hb.size)⟩
        case measure => simp [intOf]; omega
    · obtain rfl : lo = hi := by omega
      obtain rfl : lo = pos := by omega
      by_cases hl : lo < l.length
      · obtain ⟨d, hd⟩ : ∃ d, l[lo]? = some d := ⟨_, List.getElem?_eq_getElem hl⟩
        have HE : Hid (eqAt c l lo = (c d == 0)) := by unfold eqAt; rw [hd]; rfl
        have hl' : (lo : Int) < (l.length : Int) := by omega
        have hl2 : decide ((lo : Int) < (l.length : Int)) = true := by simpa using hl
        obtain ⟨b, o, rfl, hok, x0, x1, x2, x3⟩ := fld_at (hv.below hb) hd
        have hcall := hp d _ wr hb ⟨rfl, hok⟩
        clear hd hp hv
        go_wp2_with (go_at_fn g; refine hcall.mono ?_; rintro e w' ⟨rfl, hb2⟩)
        go_ret2
        exact ⟨by rw [HE.out]; rfl, hb.trans (hb2.mono hb.size)⟩
      · have HE : Hid (eqAt c l lo = false) := by unfold eqAt; rw [List.getElem?_eq_none (by omega)]; rfl
        have hl2 : decide ((lo : Int) < (l.length : Int)) = false := by simp; omega
        have hl3 : (l.length : Int) ≤ (lo : Int) := by omega
        clear hp hv
        go_wp2_with fail
        go_ret2
        exact ⟨by rw [HE.out]; rfl, hb⟩
end Go.Proofs.YtfjnkidblalckaaGreatDoor

/- Plain: the order of texts. -/
namespace Go.Proofs.YtfjnkidblalckaaGreatDoor
open Go.RowKit

theorem cb_zero : ∀ {a b : List UInt8}, Lib.compareBytes a b = 0 ↔ a = b
  | [], [] => by simp [Lib.compareBytes]
  | [], _ :: _ => by simp [Lib.compareBytes]
  | _ :: _, [] => by simp [Lib.compareBytes]
  | x :: a, y :: b => by
    have ih := @cb_zero a b
    rw [Lib.compareBytes]
    by_cases h1 : x < y
    · simp [h1]; intro e; subst e; exact absurd h1 (by simp)
    · by_cases h2 : y < x
      · simp [h1, h2]; intro e; subst e; exact absurd h2 (by simp)
      · have e : x = y := by
          apply UInt8.toNat_inj.1
          simp [UInt8.lt_iff_toNat_lt] at h1 h2
          omega
        subst e
        simp [h1, ih]
theorem cb_anti : ∀ (a b : List UInt8), Lib.compareBytes b a = - Lib.compareBytes a b
  | [], [] => by simp [Lib.compareBytes]
  | [], _ :: _ => by simp [Lib.compareBytes]
  | _ :: _, [] => by simp [Lib.compareBytes]
  | x :: a, y :: b => by
    have ih := cb_anti a b
    rw [Lib.compareBytes, Lib.compareBytes]
    by_cases h1 : x < y
    · have h2 : ¬ y < x := by simp [UInt8.lt_iff_toNat_lt] at h1 ⊢; omega
      simp [h1, h2]
    · by_cases h2 : y < x
      · simp [h1, h2]
      · simp [h1, h2, ih]
theorem cb_trans : ∀ {a b c : List UInt8}, Lib.compareBytes a b < 0 → Lib.compareBytes b c < 0 → Lib.compareBytes a c < 0
  | [], [], _, h, _ => by simp [Lib.compareBytes] at h
  | [], _ :: _, [], _, h => by simp [Lib.compareBytes] at h
  | [], _ :: _, _ :: _, _, _ => by simp [Lib.compareBytes]
  | _ :: _, [], _, h, _ => by simp [Lib.compareBytes] at h
  | _ :: _, _ :: _, [], _, h => by simp [Lib.compareBytes] at h
  | x :: a, y :: b, z :: c, h, k => by
    have ih := @cb_trans a b c
    rw [Lib.compareBytes] at h k ⊢
    simp only [UInt8.lt_iff_toNat_lt] at h k ⊢
    by_cases h1 : x.toNat < y.toNat
    · by_cases k1 : y.toNat < z.toNat
      · have : x.toNat < z.toNat := by omega
        simp [this]
      · by_cases k2 : z.toNat < y.toNat
        · simp [k1, k2] at k
        · have : x.toNat < z.toNat := by omega
          simp [this]
    · by_cases h2 : y.toNat < x.toNat
      · simp [h1, h2] at h
      · simp only [h1, h2, if_false] at h
        by_cases k1 : y.toNat < z.toNat
        · have : x.toNat < z.toNat := by omega
          simp [this]
        · by_cases k2 : z.toNat < y.toNat
          · simp [k1, k2] at k
          · simp only [k1, k2, if_false] at k
            have e1 : ¬ x.toNat < z.toNat := by omega
            have e2 : ¬ z.toNat < x.toNat := by omega
            simp only [e1, e2, if_false]
            exact ih h k
theorem cmpS_zero {a b : ByteArray} : cmpS a b = 0 ↔ a = b := by
  unfold cmpS
  rw [cb_zero]
  constructor
  · intro h
    have := Array.toList_inj.1 h
    cases a; cases b; simp at this; rw [this]
  · intro h; rw [h]
theorem cmpS_anti (a b : ByteArray) : cmpS b a = - cmpS a b := cb_anti _ _
theorem cmpS_trans {a b c : ByteArray} (h : cmpS a b < 0) (k : cmpS b c < 0) : cmpS a c < 0 := cb_trans h k
end Go.Proofs.YtfjnkidblalckaaGreatDoor

/- Plain: a kind's fields: all of its kin's, sorted by name; two of one name that are not the same: none. -/
namespace Go.Proofs.YtfjnkidblalckaaGreatDoor

def fldC (name : ByteArray) (f : Fld) : Int := cmpS f.name name
def fldLt (a b : Fld) : Bool := decide (cmpS a.name b.name < 0)
/-- One more field. -/
def putF (l : List Fld) (f : Fld) : Option (List Fld) :=
  if eqAt (fldC f.name) l (lowI (fldC f.name) l) then (if l[lowI (fldC f.name) l]? = some f then some l else none)
  else some (l.take (lowI (fldC f.name) l) ++ f :: l.drop (lowI (fldC f.name) l))
theorem fldC_mono (name : ByteArray) : ∀ a b, fldLt a b = true → 0 ≤ fldC name a → 0 ≤ fldC name b := by
  intro a b h h1
  unfold fldLt at h
  unfold fldC at h1 ⊢
  simp at h
  by_cases hb : cmpS b.name name < 0
  · have := cmpS_trans h hb
    omega
  · omega
/-- Strictly rising by name. -/
def Rise (l : List Fld) : Prop := l.Pairwise fun a b => cmpS a.name b.name < 0
theorem rise_chain {l : List Fld} (h : Rise l) : chain fldLt l = true := by
  rw [chain_iff]
  intro i a b ha hb
  obtain ⟨h1, rfl⟩ := List.getElem?_eq_some_iff.1 ha
  obtain ⟨h2, rfl⟩ := List.getElem?_eq_some_iff.1 hb
  have := List.pairwise_iff_getElem.1 h i (i + 1) h1 h2 (by omega)
  unfold fldLt; simpa using this
theorem putF_rise {l l' : List Fld} {f : Fld} (h : Rise l) (hp : putF l f = some l') : Rise l' := by
  unfold putF at hp
  have hc := rise_chain h
  generalize hk : lowI (fldC f.name) l = k at hp
  have h1 : ∀ i d, i < k → l[i]? = some d → cmpS d.name f.name < 0 := fun i d hi hd => low_lt (c := fldC f.name) (by rw [hk]; exact hi) hd
  have h2 : ∀ i d, k ≤ i → l[i]? = some d → 0 ≤ cmpS d.name f.name := fun i d hi hd => low_ge (c := fldC f.name) hc (fldC_mono f.name) (by rw [hk]; exact hi) hd
  split at hp
  · split at hp
    · injection hp with e; subst e; exact h
    · cases hp
  · rename_i he
    injection hp with e; subst e
    have h3 : ∀ i d, k ≤ i → l[i]? = some d → 0 < cmpS d.name f.name := by
      intro i d hi hd
      have hge := h2 i d hi hd
      by_cases h0 : cmpS d.name f.name = 0
      · exfalso
        by_cases hik : i = k
        · subst hik
          unfold eqAt at he
          rw [hd] at he
          simp [fldC, h0] at he
        · obtain ⟨hl, rfl⟩ := List.getElem?_eq_some_iff.1 hd
          have hkl : k < l.length := by omega
          have h4 := List.pairwise_iff_getElem.1 h k i hkl hl (by omega)
          have h5 := h2 k l[k] (Nat.le_refl _) (List.getElem?_eq_getElem hkl)
          rw [cmpS_zero] at h0
          rw [h0] at h4
          omega
      · omega
    unfold Rise
    rw [List.pairwise_append]
    refine ⟨h.sublist (List.take_sublist _ _), ?_, ?_⟩
    · rw [List.pairwise_cons]
      refine ⟨fun b hb => ?_, h.sublist (List.drop_sublist _ _)⟩
      obtain ⟨i, hi⟩ := List.mem_iff_getElem?.1 hb
      rw [List.getElem?_drop] at hi
      have := h3 _ _ (by omega) hi
      rw [cmpS_anti]; omega
    · intro a ha b hb
      obtain ⟨i, hi⟩ := List.mem_iff_getElem?.1 ha
      rw [List.getElem?_take] at hi
      split at hi
      · rename_i hik
        have hal := h1 i a hik hi
        rcases List.mem_cons.1 hb with rfl | hb
        · exact hal
        · obtain ⟨j, hj⟩ := List.mem_iff_getElem?.1 hb
          rw [List.getElem?_drop] at hj
          have := h3 _ _ (by omega) hj
          exact cmpS_trans hal (by rw [cmpS_anti]; omega)
      · cases hi
/-- All fields of some kinds, one behind the other. -/
def allF (fs : List Fld) : Option (List Fld) := fs.foldlM putF []
def fieldsOf (l : List Knd) (name : ByteArray) : Option (List Fld) :=
  allF ((kinL l name).flatMap fun s => match l.find? (fun k => decide (k.name = s)) with | some k => k.fields | none => [])
theorem mem_putF {l l' : List Fld} {f : Fld} (hp : putF l f = some l') : ∀ x, x ∈ l' ↔ x ∈ l ∨ x = f := by
  unfold putF at hp
  intro x
  split at hp
  · split at hp
    · rename_i hf
      injection hp with e; subst e
      constructor
      · exact .inl
      · rintro (h | rfl)
        · exact h
        · exact List.mem_of_getElem? hf
    · cases hp
  · injection hp with e; subst e
    generalize lowI (fldC f.name) l = k
    have : x ∈ l ↔ x ∈ l.take k ∨ x ∈ l.drop k := by rw [← List.mem_append, List.take_append_drop]
    rw [this, List.mem_append, List.mem_cons]
    constructor
    · rintro (h | h | h)
      · exact .inl (.inl h)
      · exact .inr h
      · exact .inl (.inr h)
    · rintro ((h | h) | h)
      · exact .inl h
      · exact .inr (.inr h)
      · exact .inr (.inl h)
end Go.Proofs.YtfjnkidblalckaaGreatDoor
