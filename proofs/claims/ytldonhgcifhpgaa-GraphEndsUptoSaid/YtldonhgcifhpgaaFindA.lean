/- Contracts: slices.BinarySearchFunc over nodes and properties, graph.Find, record.Find. -/
import Derived.Test.YtldonhgcifhpgaaGrB
namespace Go.Proofs.Ytldonhgcifhpgaa
open Go.RowKit

/-- What is asked of a comparing function value. -/
def CmpB {D : Type} (P : Program) (g : Nat) (caps : Array Value) (V : World → D → Value → Prop) (tv : Value) (c : D → Int) (w : World) : Prop :=
  ∀ x u wx, Below w.heap.size w wx → V wx x u → Calls P g (#[u, tv] ++ caps) wx (fun e w' => e = .returned (.int .i64 (c x)) ∧ Below wx.heap.size wx w')
/-- Is there one at that place that compares equal? -/
def eqAt {D : Type} (c : D → Int) (l : List D) (pos : Nat) : Bool := match l[pos]? with | some d => c d == 0 | none => false

def nodV (w : World) (d : Nod) (u : Value) : Prop := ∃ v, u = .agg #[.int .i64 d.id, .string d.kind, v] ∧ I64 d.id ∧ Sm d.kind ∧ Sl prpL w v d.props
def prpV (_ : World) (d : Prp) (u : Value) : Prop := u = .agg #[.string d.name, .int .i64 d.v.ty, .int .i64 d.v.n, .string d.v.s] ∧ d.ok


set_option maxHeartbeats 2000000 in
theorem bs_nod (g : Nat) (caps : Array Value) (eg : ∀ args w, (callFunc g args).run Try.prog w = .ok (.enter g args) w) (tv : Value) (c : Nod → Int) (l : List Nod) (v : Value) (w : World) (hv : Sl nodL w v l)
    (hp : CmpB Try.prog g caps nodV tv c w) (pos : Nat) (hlen : l.length ≤ 1000) (hpos : pos ≤ l.length) (h1 : ∀ i d, i < pos → l[i]? = some d → c d < 0) (h2 : ∀ i d, pos ≤ i → l[i]? = some d → 0 ≤ c d) :
    Calls Try.prog 155 #[v, tv, .func (.func g) #[] caps] w fun e w' => e = .returned (.tuple #[.int .i64 pos, .bool (eqAt c l pos)]) ∧ Below w.heap.size w w' := by
  obtain ⟨A, cp, rfl, hlc, hcm⟩ := hv.form
  have hcm' : l.length ≤ 9223372036854775807 := by unfold maxLen at hcm; omega
  clear hcm hlc hcm'
  have P1 := Lib.hid h1
  have P2 := Lib.hid h2
  clear h1 h2
  go_enter Try.func155, Try.ntmps155
  go_wp2_with fail
  go_loopw [9, 10] (fun i j wr => ∃ lo hi : Nat, lo ≤ pos ∧ pos ≤ hi ∧ hi ≤ l.length ∧ i = .int .i64 lo ∧ j = .int .i64 hi ∧ Below w.heap.size w wr) (fun i j _ => (intOf j).toNat - (intOf i).toNat)
  case atStart => exact ⟨0, l.length, Nat.zero_le _, hpos, Nat.le_refl _, rfl, rfl, Below.refl _ _⟩
  case round =>
    obtain ⟨lo, hi, hlo, hhi, hhl, rfl, rfl, hb⟩ := hrel
    by_cases hlt : lo < hi
    · obtain ⟨d, hd⟩ : ∃ d, l[(lo + hi) / 2]? = some d := ⟨_, List.getElem?_eq_getElem (by omega)⟩
      have HD : Hid (l[(lo + hi) / 2]? = some d) := hd
      obtain ⟨b, o, rfl, u, hid, hkd, hpr, x0, x1, x2⟩ := nod_at (hv.below hb) hd
      obtain ⟨Ar, cr, rfl, _, _⟩ := hpr.form
      have hcall := hp d _ wr hb ⟨_, rfl, hid, hkd, hpr⟩
      clear hpr
      clear hd hp hv
      have hm1 : (lo + hi) / 2 < hi := by omega
      have hm2 : lo ≤ (lo + hi) / 2 := by omega
      by_cases hc : c d < 0
      · have hmp : (lo + hi) / 2 < pos := by
          rcases Nat.lt_or_ge ((lo + hi) / 2) pos with h | h
          · exact h
          · have := P2.out _ _ h HD.out; omega
        go_wp2_with (go_at_fn g; refine hcall.mono ?_; rintro e w' ⟨rfl, hb2⟩)
        go_roundw
        case rel => exact ⟨(lo + hi) / 2 + 1, hi, by omega, hhi, hhl, by go_num, rfl, hb.trans (hb2.mono hb.size)⟩
        case measure => simp [intOf]; omega
      · have hmp : pos ≤ (lo + hi) / 2 := by
          rcases Nat.lt_or_ge ((lo + hi) / 2) pos with h | h
          · have := P1.out _ _ h HD.out; omega
          · exact h
        have hc' : 0 ≤ c d := by omega
        go_wp2_with (go_at_fn g; refine hcall.mono ?_; rintro e w' ⟨rfl, hb2⟩)
        go_roundw
        case rel => exact ⟨lo, (lo + hi) / 2, hlo, by omega, by omega, rfl, by go_num, hb.trans (hb2.mono hb.size)⟩
        case measure => simp [intOf]; omega
    · obtain rfl : lo = hi := by omega
      obtain rfl : lo = pos := by omega
      by_cases hl : lo < l.length
      · obtain ⟨d, hd⟩ : ∃ d, l[lo]? = some d := ⟨_, List.getElem?_eq_getElem hl⟩
        have HE : Hid (eqAt c l lo = (c d == 0)) := by unfold eqAt; rw [hd]; rfl
        have hl' : (lo : Int) < (l.length : Int) := by omega
        have hl2 : decide ((lo : Int) < (l.length : Int)) = true := by simpa using hl
        obtain ⟨b, o, rfl, u, hid, hkd, hpr, x0, x1, x2⟩ := nod_at (hv.below hb) hd
        obtain ⟨Ar, cr, rfl, _, _⟩ := hpr.form
        have hcall := hp d _ wr hb ⟨_, rfl, hid, hkd, hpr⟩
        clear hpr
        clear hd hp hv
        go_wp2_with (go_at_fn g; refine hcall.mono ?_; rintro e w' ⟨rfl, hb2⟩)
        go_ret2
        exact ⟨by rw [HE.out]; rfl, hb.trans (hb2.mono hb.size)⟩
      · have HE : Hid (eqAt c l lo = false) := by unfold eqAt; rw [List.getElem?_eq_none (by omega)]; rfl
        have hl2 : decide ((lo : Int) < (l.length : Int)) = false := by simp; omega
        have hl3 : (l.length : Int) ≤ (lo : Int) := by omega
        clear hp hv
        go_wp2_with fail
        go_ret2
        exact ⟨by rw [HE.out]; rfl, hb⟩
set_option maxHeartbeats 2000000 in
theorem bs_prp (g : Nat) (caps : Array Value) (eg : ∀ args w, (callFunc g args).run Try.prog w = .ok (.enter g args) w) (tv : Value) (c : Prp → Int) (l : List Prp) (v : Value) (w : World) (hv : Sl prpL w v l)
    (hp : CmpB Try.prog g caps prpV tv c w) (pos : Nat) (hlen : l.length ≤ 1000) (hpos : pos ≤ l.length) (h1 : ∀ i d, i < pos → l[i]? = some d → c d < 0) (h2 : ∀ i d, pos ≤ i → l[i]? = some d → 0 ≤ c d) :
    Calls Try.prog 79 #[v, tv, .func (.func g) #[] caps] w fun e w' => e = .returned (.tuple #[.int .i64 pos, .bool (eqAt c l pos)]) ∧ Below w.heap.size w w' := by
  obtain ⟨A, cp, rfl, hlc, hcm⟩ := hv.form
  have hcm' : l.length ≤ 9223372036854775807 := by unfold maxLen at hcm; omega
  clear hcm hlc hcm'
  have P1 := Lib.hid h1
  have P2 := Lib.hid h2
  clear h1 h2
  go_enter Try.func79, Try.ntmps79
  go_wp2_with fail
  go_loopw [9, 10] (fun i j wr => ∃ lo hi : Nat, lo ≤ pos ∧ pos ≤ hi ∧ hi ≤ l.length ∧ i = .int .i64 lo ∧ j = .int .i64 hi ∧ Below w.heap.size w wr) (fun i j _ => (intOf j).toNat - (intOf i).toNat)
  case atStart => exact ⟨0, l.length, Nat.zero_le _, hpos, Nat.le_refl _, rfl, rfl, Below.refl _ _⟩
  case round =>
    obtain ⟨lo, hi, hlo, hhi, hhl, rfl, rfl, hb⟩ := hrel
    by_cases hlt : lo < hi
    · obtain ⟨d, hd⟩ : ∃ d, l[(lo + hi) / 2]? = some d := ⟨_, List.getElem?_eq_getElem (by omega)⟩
      have HD : Hid (l[(lo + hi) / 2]? = some d) := hd
      obtain ⟨b, o, rfl, hok, x0, x1, x2, x3⟩ := prp_at (hv.below hb) hd
      have hcall := hp d _ wr hb ⟨rfl, hok⟩
      clear hd hp hv
      have hm1 : (lo + hi) / 2 < hi := by omega
      have hm2 : lo ≤ (lo + hi) / 2 := by omega
      by_cases hc : c d < 0
      · have hmp : (lo + hi) / 2 < pos := by
          rcases Nat.lt_or_ge ((lo + hi) / 2) pos with h | h
          · exact h
          · have := P2.out _ _ h HD.out; omega
        go_wp2_with (go_at_fn g; refine hcall.mono ?_; rintro e w' ⟨rfl, hb2⟩)
        go_roundw
        case rel => exact ⟨(lo + hi) / 2 + 1, hi, by omega, hhi, hhl, by go_num, rfl, hb.trans (hb2.mono hb.size)⟩
        case measure => simp [intOf]; omega
      · have hmp : pos ≤ (lo + hi) / 2 := by
          rcases Nat.lt_or_ge ((lo + hi) / 2) pos with h | h
          · have := P1.out _ _ h HD.out; omega
          · exact h
        have hc' : 0 ≤ c d := by omega
        go_wp2_with (go_at_fn g; refine hcall.mono ?_; rintro e w' ⟨rfl, hb2⟩)
        go_roundw
        case rel => exact ⟨lo, (lo + hi) / 2, hlo, by omega, by omega, rfl, by go_num, hb.trans (hb2.mono hb.size)⟩
        case measure => simp [intOf]; omega
    · obtain rfl : lo = hi := by omega
      obtain rfl : lo = pos := by omega
      by_cases hl : lo < l.length
      · obtain ⟨d, hd⟩ : ∃ d, l[lo]? = some d := ⟨_, List.getElem?_eq_getElem hl⟩
        have HE : Hid (eqAt c l lo = (c d == 0)) := by unfold eqAt; rw [hd]; rfl
        have hl' : (lo : Int) < (l.length : Int) := by omega
        have hl2 : decide ((lo : Int) < (l.length : Int)) = true := by simpa using hl
        obtain ⟨b, o, rfl, hok, x0, x1, x2, x3⟩ := prp_at (hv.below hb) hd
        have hcall := hp d _ wr hb ⟨rfl, hok⟩
        clear hd hp hv
        go_wp2_with (go_at_fn g; refine hcall.mono ?_; rintro e w' ⟨rfl, hb2⟩)
        go_ret2
        exact ⟨by rw [HE.out]; rfl, hb.trans (hb2.mono hb.size)⟩
      · have HE : Hid (eqAt c l lo = false) := by unfold eqAt; rw [List.getElem?_eq_none (by omega)]; rfl
        have hl2 : decide ((lo : Int) < (l.length : Int)) = false := by simp; omega
        have hl3 : (l.length : Int) ≤ (lo : Int) := by omega
        clear hp hv
        go_wp2_with fail
        go_ret2
        exact ⟨by rw [HE.out]; rfl, hb⟩
end Go.Proofs.Ytldonhgcifhpgaa
