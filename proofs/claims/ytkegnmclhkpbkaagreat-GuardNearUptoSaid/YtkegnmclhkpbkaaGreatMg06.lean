/- Parts: DelT, Cmp, TieP, InsB, RecS. -/
import Derived.Test.YtkegnmclhkpbkaaGreatMg04
import Derived.Test.YtkegnmclhkpbkaaGreatMg03
import Derived.Test.YtkegnmclhkpbkaaGreatMg05
import Derived.Test.YtkegnmclhkpbkaaGreatRows
import Derived.Maps.RangeWalk
/- Contract: slices.DeleteFunc at []Tie. -/
namespace Go.Proofs.YtkegnmclhkpbkaaGreat
open Go Go.RowKit




def tieAg (_ : World) (d : Tie) (u : Value) : Prop := u = .agg #[.string d.bond, .int .i64 d.src, .int .i64 d.dst] ∧ d.ok
set_option maxHeartbeats 400000 in
theorem idx_ties (g : Nat) (caps : Array Value) (eg : ∀ args w, (callFunc g args).run Tryz.prog w = .ok (.enter g args) w) (p : Tie → Bool) (l : List (Tie)) (v : Value) (w : World) (hv : Sl tieL w v l)
    (hp : PredB Tryz.prog g caps tieAg p w) :
    Calls Tryz.prog 91 #[v, .func (.func g) #[] caps] w fun e w' => e = .returned (.int .i64 (idxI p l)) ∧ Below w.heap.size w w' := by
  obtain ⟨A, c, rfl, hlc, hcm⟩ := hv.form
  unfold maxLen at hcm
  go_enter Tryz.func91, Tryz.ntmps91
  go_wp2_with fail
  go_loopw [8] (fun i wr => ∃ k : Nat, k ≤ l.length ∧ i = .int .i64 k ∧ Below w.heap.size w wr ∧ Hid (∀ j x, j < k → l[j]? = some x → p x = false)) (fun i _ => l.length - (intOf i).toNat)
  case atStart => exact ⟨0, Nat.zero_le _, rfl, Below.refl _ _, fun j x hj => absurd hj (Nat.not_lt_zero _)⟩
  case round =>
    obtain ⟨k, hk, rfl, hb, HA⟩ := hrel
    by_cases hlt : k < l.length
    · obtain ⟨d, hd⟩ : ∃ d, l[k]? = some d := ⟨_, List.getElem?_eq_getElem hlt⟩
      obtain ⟨b, o, rfl, hsm, x0, x1, x2⟩ := tie_at (hv.below hb) hd
      have hcall := hp d _ wr hb ⟨rfl, hsm⟩
      have HD : Hid (l[k]? = some d) := hd
      clear hd hp hv
      cases hq : p d with
      | true =>
        rw [hq] at hcall
        have HQ : Hid (p d = true) := hq
        clear hq
        go_wp2_with (go_at_fn g; refine hcall.mono ?_; rintro e w' ⟨rfl, hb2⟩)
        go_ret
        exact ⟨ret_int (idxI_hit HA.out HD.out HQ.out).symm, hb.trans (hb2.mono hb.size)⟩
      | false =>
        rw [hq] at hcall
        have HQ : Hid (p d = false) := hq
        clear hq
        go_wp2_with (go_at_fn g; refine hcall.mono ?_; rintro e w' ⟨rfl, hb2⟩)
        go_roundw
        case rel => exact ⟨k + 1, by omega, by go_num, hb.trans (hb2.mono hb.size), miss_step HA.out HD.out HQ.out⟩
        case measure => simp [intOf]; omega
    · have hkl : k = l.length := by omega
      subst hkl
      clear hp hv
      go_wp2_with fail
      go_ret
      exact ⟨ret_int (idxI_miss HA.out).symm, hb⟩
theorem del_ties_info : (Tryz.prog.info? 36).map (fun i => (i.zero, i.size, i.bytes)) = some (some (.agg #[.string .empty, .int .i64 0, .int .i64 0]), 3, 32) := by kernel_rfl
set_option maxRecDepth 100000 in
set_option maxHeartbeats 4000000 in
theorem del_ties_g (g : Nat) (caps : Array Value) (eg : ∀ args w, (callFunc g args).run Tryz.prog w = .ok (.enter g args) w) (p : Tie → Bool) (l : List Tie) (v : Value) (B : Nat) (w : World) (hB : B ≤ w.heap.size)
    (hown : Own w B 36 3 v l.length (l.flatMap Tie.enc)) (hok : ∀ x ∈ l, x.ok) (hl : l.length ≤ 1000) (hp : PredG Tryz.prog g caps (fun d u => u = (.agg #[.string d.bond, .int .i64 d.src, .int .i64 d.dst]) ∧ d.ok) p v.ownBlock w) :
    Calls Tryz.prog 60 #[v, .func (.func g) #[] caps] w fun e w' => ∃ u, e = .returned u ∧ Own w' B 36 3 u (l.filter fun x => !p x).length ((l.filter fun x => !p x).flatMap Tie.enc) ∧ w.grownBy w' v.ownBlock ∧ u.ownBlock = v.ownBlock := by
  obtain ⟨i0, ei, ez, ez1, ez2⟩ := info_parts del_ties_info
  have hidx := idx_ties g caps eg p l _ w (hown.ties hok) (fun x u wx hb hu => hp x u wx (grownBy_below hb _) hu)
  rcases idxI_cases p l with ⟨h1, h2⟩ | ⟨k0, d0, h1, h2, h3⟩
  · rw [h1] at hidx
    obtain ⟨A, c, rfl, hlc, hcm⟩ := hown.form
    have H2 := Lib.hid h2
    have HO := Lib.hid hown
    clear h1 h2 hown hp hok
    go_enter Tryz.func60, Tryz.ntmps60
    go_wp2_with (go_at_call 91; refine hidx.mono ?_; rintro e w1 ⟨rfl, hb1⟩)
    go_ret
    exact ⟨_, rfl, by rw [H2.out]; exact HO.out.below hb1, grownBy_below hb1 _, rfl⟩
  · rw [h1] at hidx
    obtain ⟨g0, o0, c, rfl, hBg, hgl⟩ := hown.addr (len_pos h2)
    obtain ⟨_, c', hv, hlc, hcm⟩ := hown.form
    injection hv with hvA hvL hvC
    subst hvC; subst hvA
    clear hvL
    unfold maxLen at hcm
    have HK0 := Lib.hid h3
    have hk0l := (List.getElem?_eq_some_iff.1 h2).1
    have HP := Lib.hid hp
    have HOK := Lib.hid hok
    have HO := Lib.hid hown
    have hkl : (k0 : Int) + 1 ≤ (l.length : Int) := by omega
    have hl2 : (l.length : Int) ≤ 1000 := by omega
    have hne : ((k0 : Int) == -1) = false := beq_eq_false_iff_ne.2 (by omega)
    have hown' : Own w B 36 3 (.slice (some ⟨g0, o0, none⟩) l.length c) l.length (l.flatMap Tie.enc) := hown
    clear h1 h2 h3 hown hp hok
    go_enter Tryz.func60, Tryz.ntmps60
    go_wp2_with (go_at_call 91; refine hidx.mono ?_; rintro e w1 ⟨rfl, hb1⟩)
    have ho1 := hown'.below hb1
    have hgb1 : w.grownBy w1 (some g0) := grownBy_below hb1 _
    clear hidx hown'
    go_loopw [5, 6] (fun i j wr => ∃ (a b : Nat) (dk : List Tie), i = .int .i64 a ∧ j = .int .i64 b ∧ a < b ∧ b ≤ l.length ∧ Own wr B 36 3 (.slice (some ⟨g0, o0, none⟩) l.length c) l.length (dk.flatMap Tie.enc) ∧ w.grownBy wr (some g0) ∧ Hid (Kept p l dk b a)) (fun _ j _ => l.length - (intOf j).toNat)
    case atStart => exact ⟨k0, k0 + 1, l, rfl, by go_num, by omega, by omega, ho1, hgb1, HK0.out⟩
    case round =>
      clear ho1 hgb1
      obtain ⟨a, b, dk, rfl, rfl, hab, hbl, hO, hgr, HK⟩ := hrel
      have hdl := HK.out.len
      have hal : (a : Int) < (l.length : Int) := by omega
      have hgrs := hgr.size
      by_cases hlt : b < l.length
      · obtain ⟨d, hd⟩ : ∃ d, l[b]? = some d := ⟨_, List.getElem?_eq_getElem hlt⟩
        obtain ⟨q, hq⟩ : ∃ q, dk[a]? = some q := ⟨_, List.getElem?_eq_getElem (by omega)⟩
        have hdk : dk[b]? = some d := (HK.out.at hlt).trans hd
        have hlt' : (b : Int) < (l.length : Int) := by omega
        have x0 : wr.cell? ⟨g0, o0 + b * 3, none⟩ = some (.string d.bond) := hO.cell (j := b * 3 + 0) rfl (flat_get (j := 0) Tie.enc_len hdk rfl)
        have x1 : wr.cell? ⟨g0, o0 + b * 3 + 1, none⟩ = some (.int .i64 d.src) := hO.cell (j := b * 3 + 1) rfl (flat_get (j := 1) Tie.enc_len hdk rfl)
        have x2 : wr.cell? ⟨g0, o0 + b * 3 + 2, none⟩ = some (.int .i64 d.dst) := hO.cell (j := b * 3 + 2) rfl (flat_get (j := 2) Tie.enc_len hdk rfl)
        obtain ⟨z0, z1, z2⟩ := cell_box3 wr (.string d.bond) (.int .i64 d.src) (.int .i64 d.dst) 36
        have hbx : Below wr.heap.size wr (wr.alloc (.cells #[.string d.bond, .int .i64 d.src, .int .i64 d.dst] 36)) := (Below.refl _ _).alloc (Nat.le_refl _) _
        have hOx := hO.below hbx
        have hgx : w.grownBy (wr.alloc (.cells #[.string d.bond, .int .i64 d.src, .int .i64 d.dst] 36)) (some g0) := hgr.trans (grownBy_below hbx _)
        have hcall := HP.out d (.agg #[.string d.bond, .int .i64 d.src, .int .i64 d.dst]) (wr.alloc (.cells #[.string d.bond, .int .i64 d.src, .int .i64 d.dst] 36)) hgx ⟨rfl, HOK.out d (List.mem_of_getElem? hd)⟩
        have HD := Lib.hid hd
        clear hd hdk hO hgr
        cases hpd : p d with
        | true =>
          rw [hpd] at hcall
          have HN := Lib.hid (HK.out.skip HD.out hpd)
          clear hpd hq
          go_wp2_with (go_at_fn g; refine hcall.mono ?_; rintro e w2 ⟨rfl, hb2⟩)
          have hO2 := hOx.below hb2
          have hg2 := hgx.trans (grownBy_below hb2 (some g0))
          clear hcall hb2 hOx hgx x0 x1 x2 z0 z1 z2
          go_roundw
          case rel => exact ⟨a, b + 1, dk, rfl, by go_num, by omega, by omega, hO2, hg2, HN⟩
          case measure => simp [intOf]; omega
        | false =>
          rw [hpd] at hcall
          have HN := Lib.hid (HK.out.keep HD.out hpd)
          clear hpd
          go_wp2_with (
            (go_at_fn g
             refine hcall.mono ?_
             rintro e w2 ⟨rfl, hb2⟩
             have hO2 := hOx.below hb2
             have hg2 := hgx.trans (grownBy_below hb2 (some g0))
             clear hOx hgx
             have y0 : w2.cell? ⟨g0, o0 + a * 3, none⟩ = some (.string q.bond) := hO2.cell (j := a * 3 + 0) rfl (flat_get (j := 0) Tie.enc_len hq rfl)
             have y1 : w2.cell? ⟨g0, o0 + a * 3 + 1, none⟩ = some (.int .i64 q.src) := hO2.cell (j := a * 3 + 1) rfl (flat_get (j := 1) Tie.enc_len hq rfl)
             have y2 : w2.cell? ⟨g0, o0 + a * 3 + 2, none⟩ = some (.int .i64 q.dst) := hO2.cell (j := a * 3 + 2) rfl (flat_get (j := 2) Tie.enc_len hq rfl)
             have f0 : w2.frozen? ⟨g0, o0 + a * 3, none⟩ = false := hO2.frozen rfl _
             have f1 : w2.frozen? ⟨g0, o0 + a * 3 + 1, none⟩ = false := hO2.frozen rfl _
             have f2 : w2.frozen? ⟨g0, o0 + a * 3 + 2, none⟩ = false := hO2.frozen rfl _
             have b0 := cell_below hb2 z0
             have b1 := cell_below hb2 z1
             have b2 := cell_below hb2 z2
             have ho3 := (((hO2.store (a * 3) (by omega) (.string d.bond)).store (a * 3 + 1) (by omega) (.int .i64 d.src)).store (a * 3 + 2) (by omega) (.int .i64 d.dst))
             have HO3 : Hid (Own (((w2.setCell ⟨g0, o0 + a * 3, none⟩ (.string d.bond)).setCell ⟨g0, o0 + a * 3 + 1, none⟩ (.int .i64 d.src)).setCell ⟨g0, o0 + a * 3 + 2, none⟩ (.int .i64 d.dst)) B 36 3 (.slice (some ⟨g0, o0, none⟩) l.length c) l.length ((dk.set a d).flatMap Tie.enc)) := by
               rw [← flat_set Tie.enc_len dk a d (by omega)]; exact ho3
             have HG3 : Hid (w.grownBy (((w2.setCell ⟨g0, o0 + a * 3, none⟩ (.string d.bond)).setCell ⟨g0, o0 + a * 3 + 1, none⟩ (.int .i64 d.src)).setCell ⟨g0, o0 + a * 3 + 2, none⟩ (.int .i64 d.dst)) (some g0)) := (((hg2.trans (grownBy_setCell_q _ ⟨g0, o0 + a * 3, none⟩ _)).trans (grownBy_setCell_q _ ⟨g0, o0 + a * 3 + 1, none⟩ _)).trans (grownBy_setCell_q _ ⟨g0, o0 + a * 3 + 2, none⟩ _))
             clear ho3 hO2 hg2 z0 z1 z2
             skip)
            )
          go_roundw
          case rel => exact ⟨a + 1, b + 1, dk.set a d, by go_num, by go_num, by omega, by omega, HO3.out, HG3.out, HN⟩
          case measure => simp [intOf]; omega
      · obtain rfl : b = l.length := by omega
        obtain ⟨hd1, hd2⟩ := HK.out.done
        obtain ⟨w9, hr9, ho9, hg9⟩ := hO.clear (P := Tryz.prog) 27 i0 (.agg #[.string .empty, .int .i64 0, .int .i64 0]) 3 Tryz.underlying27 ei ez rfl (by kernel_rfl) (by decide) (show a < l.length by omega)
        have HG9 := Lib.hid (hgr.trans hg9)
        have HO9 : Hid (Own w9 B 36 3 (.slice (some ⟨g0, o0, none⟩) a c) (l.filter fun x => !p x).length ((l.filter fun x => !p x).flatMap Tie.enc)) := by
          unfold Hid
          rw [hd2, ← hd1, ← flat_take Tie.enc_len dk a (by omega)]
          exact ho9
        have hca : ¬ c = a := by omega
        have hac : (a : Int) ≤ (c : Int) := by omega
        clear hd1 hd2 ho9 hg9 hO hgr
        go_wp2_with (at_builtin; refine wpList_clear_q _ rfl (.tmp 38) _ rfl _ rfl (hr9 _ _) ?_)
        go_ret
        exact ⟨_, rfl, HO9.out, HG9.out, rfl⟩
theorem del_ties (g : Nat) (caps : Array Value) (eg : ∀ args w, (callFunc g args).run Tryz.prog w = .ok (.enter g args) w) (p : Tie → Bool) (l : List Tie) (v : Value) (B : Nat) (w : World) (hB : B ≤ w.heap.size)
    (hown : Own w B 36 3 v l.length (l.flatMap Tie.enc)) (hok : ∀ x ∈ l, x.ok) (hl : l.length ≤ 1000) (hp : PredO Tryz.prog g caps (fun d u => u = (.agg #[.string d.bond, .int .i64 d.src, .int .i64 d.dst]) ∧ d.ok) p B w) :
    Calls Tryz.prog 60 #[v, .func (.func g) #[] caps] w fun e w' => ∃ u, e = .returned u ∧ Own w' B 36 3 u (l.filter fun x => !p x).length ((l.filter fun x => !p x).flatMap Tie.enc) ∧ w.grownBy w' v.ownBlock ∧ u.ownBlock = v.ownBlock :=
  del_ties_g g caps eg p l v B w hB hown hok hl (fun x u wx hgw hu => hp x u wx ((Below.refl B w).grown hgw hB (fun k e => (hown.lt k e).1)) hu)
end Go.Proofs.YtkegnmclhkpbkaaGreat

/- Plain: the order of texts. -/
namespace Go.Proofs.YtkegnmclhkpbkaaGreat
open Go.RowKit

theorem cb_zero : ∀ {a b : List UInt8}, Lib.compareBytes a b = 0 ↔ a = b
  | [], [] => by simp [Lib.compareBytes]
  | [], _ :: _ => by simp [Lib.compareBytes]
  | _ :: _, [] => by simp [Lib.compareBytes]
  | x :: a, y :: b => by
    have ih := @cb_zero a b
    rw [Lib.compareBytes]
    by_cases h1 : x < y
    · simp [h1]; intro e; subst e; exact absurd h1 (by simp)
    · by_cases h2 : y < x
      · simp [h1, h2]; intro e; subst e; exact absurd h2 (by simp)
      · have e : x = y := by
          apply UInt8.toNat_inj.1
          simp [UInt8.lt_iff_toNat_lt] at h1 h2
          omega
        subst e
        simp [h1, ih]
theorem cb_anti : ∀ (a b : List UInt8), Lib.compareBytes b a = - Lib.compareBytes a b
  | [], [] => by simp [Lib.compareBytes]
  | [], _ :: _ => by simp [Lib.compareBytes]
  | _ :: _, [] => by simp [Lib.compareBytes]
  | x :: a, y :: b => by
    have ih := cb_anti a b
    rw [Lib.compareBytes, Lib.compareBytes]
    by_cases h1 : x < y
    · have h2 : ¬ y < x := by simp [UInt8.lt_iff_toNat_lt] at h1 ⊢; omega
      simp [h1, h2]
    · by_cases h2 : y < x
      · simp [h1, h2]
      · simp [h1, h2, ih]
theorem cb_trans : ∀ {a b c : List UInt8}, Lib.compareBytes a b < 0 → Lib.compareBytes b c < 0 → Lib.compareBytes a c < 0
  | [], [], _, h, _ => by simp [Lib.compareBytes] at h
  | [], _ :: _, [], _, h => by simp [Lib.compareBytes] at h
  | [], _ :: _, _ :: _, _, _ => by simp [Lib.compareBytes]
  | _ :: _, [], _, h, _ => by simp [Lib.compareBytes] at h
  | _ :: _, _ :: _, [], _, h => by simp [Lib.compareBytes] at h
  | x :: a, y :: b, z :: c, h, k => by
    have ih := @cb_trans a b c
    rw [Lib.compareBytes] at h k ⊢
    simp only [UInt8.lt_iff_toNat_lt] at h k ⊢
    by_cases h1 : x.toNat < y.toNat
    · by_cases k1 : y.toNat < z.toNat
      · have : x.toNat < z.toNat := by omega
        simp [this]
      · by_cases k2 : z.toNat < y.toNat
        · simp [k1, k2] at k
        · have : x.toNat < z.toNat := by omega
          simp [this]
    · by_cases h2 : y.toNat < x.toNat
      · simp [h1, h2] at h
      · simp only [h1, h2, if_false] at h
        by_cases k1 : y.toNat < z.toNat
        · have : x.toNat < z.toNat := by omega
          simp [this]
        · by_cases k2 : z.toNat < y.toNat
          · simp [k1, k2] at k
          · simp only [k1, k2, if_false] at k
            have e1 : ¬ x.toNat < z.toNat := by omega
            have e2 : ¬ z.toNat < x.toNat := by omega
            simp only [e1, e2, if_false]
            exact ih h k
theorem cmpS_zero {a b : ByteArray} : cmpS a b = 0 ↔ a = b := by
  unfold cmpS
  rw [cb_zero]
  constructor
  · intro h
    have := Array.toList_inj.1 h
    cases a; cases b; simp at this; rw [this]
  · intro h; rw [h]
theorem cmpS_anti (a b : ByteArray) : cmpS b a = - cmpS a b := cb_anti _ _
theorem cmpS_trans {a b c : ByteArray} (h : cmpS a b < 0) (k : cmpS b c < 0) : cmpS a c < 0 := cb_trans h k
end Go.Proofs.YtkegnmclhkpbkaaGreat

/- Plain: the order of ties; what a right graph's ties give. -/
namespace Go.Proofs.YtkegnmclhkpbkaaGreat

def tieLt (a b : Tie) : Bool := decide (tieO a b < 0)
def tieC (t : Tie) (d : Tie) : Int := tieO d t
def tpos (l : List Tie) (t : Tie) : Nat := lowI (tieC t) l
def thas (l : List Tie) (t : Tie) : Bool := eqAt (tieC t) l (tpos l t)
theorem tieO_neg {a b : Tie} : tieO a b < 0 ↔ cmpS a.bond b.bond < 0 ∨ (a.bond = b.bond ∧ (a.src < b.src ∨ (a.src = b.src ∧ a.dst < b.dst))) := by
  have h0 := @cmpS_zero a.bond b.bond
  have h1 := @cmpI_neg a.src b.src
  have h2 := @cmpI_zero a.src b.src
  have h3 := @cmpI_neg a.dst b.dst
  unfold tieO orI
  by_cases e1 : cmpS a.bond b.bond = 0
  · rw [if_pos e1]
    unfold orI
    by_cases e2 : cmpI a.src b.src = 0
    · rw [if_pos e2]
      unfold orI orI
      have e4 := h2.1 e2
      by_cases e3 : cmpI a.dst b.dst = 0
      · rw [if_pos e3]
        have : ¬ a.dst < b.dst := fun h => by have := h3.2 h; omega
        constructor
        · intro h; omega
        · rintro (h | ⟨_, h | ⟨_, h⟩⟩) <;> omega
      · rw [if_neg e3]
        constructor
        · intro h; exact .inr ⟨h0.1 e1, .inr ⟨e4, h3.1 h⟩⟩
        · rintro (h | ⟨_, h | ⟨_, h⟩⟩)
          · omega
          · omega
          · exact h3.2 h
    · rw [if_neg e2]
      constructor
      · intro h; exact .inr ⟨h0.1 e1, .inl (h1.1 h)⟩
      · rintro (h | ⟨_, h | ⟨h, _⟩⟩)
        · omega
        · exact h1.2 h
        · exact absurd (h2.2 h) e2
  · rw [if_neg e1]
    constructor
    · intro h; exact .inl h
    · rintro (h | ⟨h, _⟩)
      · exact h
      · exact absurd (h0.2 h) e1
theorem tieO_zero {a b : Tie} : tieO a b = 0 ↔ a = b := by
  have h0 := @cmpS_zero a.bond b.bond
  have h2 := @cmpI_zero a.src b.src
  have h3 := @cmpI_zero a.dst b.dst
  have hx : a = b ↔ a.bond = b.bond ∧ a.src = b.src ∧ a.dst = b.dst := by
    cases a; cases b; simp
  rw [hx]
  unfold tieO orI
  by_cases e1 : cmpS a.bond b.bond = 0
  · rw [if_pos e1]
    unfold orI
    by_cases e2 : cmpI a.src b.src = 0
    · rw [if_pos e2]
      unfold orI orI
      by_cases e3 : cmpI a.dst b.dst = 0
      · rw [if_pos e3]; exact ⟨fun _ => ⟨h0.1 e1, h2.1 e2, h3.1 e3⟩, fun _ => rfl⟩
      · rw [if_neg e3]; exact ⟨fun h => absurd h e3, fun h => absurd (h3.2 h.2.2) e3⟩
    · rw [if_neg e2]; exact ⟨fun h => absurd h e2, fun h => absurd (h2.2 h.2.1) e2⟩
  · rw [if_neg e1]; exact ⟨fun h => absurd h e1, fun h => absurd (h0.2 h.1) e1⟩
theorem tieO_trans {a b c : Tie} (h : tieO a b < 0) (k : tieO b c < 0) : tieO a c < 0 := by
  rw [tieO_neg] at h k ⊢
  rcases h with h | ⟨e1, h⟩
  · rcases k with k | ⟨e2, _⟩
    · exact .inl (cmpS_trans h k)
    · exact .inl (by rw [← e2]; exact h)
  · rcases k with k | ⟨e2, k⟩
    · exact .inl (by rw [e1]; exact k)
    · refine .inr ⟨e1.trans e2, ?_⟩
      omega
theorem tieC_mono (t : Tie) : ∀ a b, tieLt a b = true → 0 ≤ tieC t a → 0 ≤ tieC t b := by
  intro a b h h1
  unfold tieLt at h
  unfold tieC at h1 ⊢
  have h := of_decide_eq_true h
  by_cases hb : tieO b t < 0
  · have := tieO_trans h hb; omega
  · omega
theorem tiesE_step {p : Option Tie} {t : Tie} {r : List Tie} (h : tiesE p (t :: r) = 0) : tieE t = 0 ∧ tiesE (some t) r = 0 ∧ (∀ a, p = some a → tieLt a t = true) := by
  have e : tiesE p (t :: r) = if tieE t = 0 then (if (match p with | some q => decide (0 ≤ tieO q t) | none => false) then 7 else tiesE (some t) r) else tieE t := by cases p <;> rfl
  rw [e] at h
  by_cases h1 : tieE t = 0
  · rw [if_pos h1] at h
    cases p with
    | none => exact ⟨h1, h, fun a ha => by cases ha⟩
    | some q =>
      have h : (if decide (0 ≤ tieO q t) = true then (7 : Int) else tiesE (some t) r) = 0 := h
      by_cases h2 : 0 ≤ tieO q t
      · rw [if_pos (decide_eq_true h2)] at h; omega
      · rw [if_neg (fun x => h2 (of_decide_eq_true x))] at h
        exact ⟨h1, h, fun a ha => by cases ha; exact decide_eq_true (by omega)⟩
  · rw [if_neg h1] at h; exact absurd h h1
theorem tiesE_zero : ∀ {l : List Tie} {p : Option Tie}, tiesE p l = 0 → (∀ t ∈ l, tieE t = 0) ∧ chain tieLt l = true ∧ (∀ a b, p = some a → l.head? = some b → tieLt a b = true)
  | [], p, _ => ⟨by simp, rfl, by simp⟩
  | n :: r, p, h => by
    obtain ⟨s1, s3, s4⟩ := tiesE_step h
    obtain ⟨i1, i2, i3⟩ := tiesE_zero s3
    refine ⟨?_, ?_, ?_⟩
    · intro m hm
      rcases List.mem_cons.1 hm with rfl | hm
      · exact s1
      · exact i1 m hm
    · cases r with
      | nil => rfl
      | cons b r => simp only [chain, Bool.and_eq_true]; exact ⟨i3 n b rfl rfl, i2⟩
    · intro a b ha hb
      simp at hb
      subst hb
      exact s4 a ha
theorem grf_parts {g : Grf} (h : grfE g = 0) : nodsE none g.nodes = 0 ∧ tiesE none g.ties = 0 := by
  unfold grfE at h
  by_cases h1 : 60 < g.nodes.length ∨ 120 < g.ties.length
  · rw [if_pos h1] at h; cases h
  rw [if_neg h1] at h
  by_cases h2 : nodsE none g.nodes = 0
  · rw [if_pos h2] at h; exact ⟨h2, h⟩
  · rw [if_neg h2] at h; exact absurd h h2
theorem grf_ties {g : Grf} (h : grfE g = 0) : chain tieLt g.ties = true ∧ ∀ t ∈ g.ties, tieE t = 0 := by
  obtain ⟨i1, i2, _⟩ := tiesE_zero (grf_parts h).2
  exact ⟨i2, i1⟩
end Go.Proofs.YtkegnmclhkpbkaaGreat

/- Contract: slices.Insert of one element into a slice that the call owns. -/
namespace Go.Proofs.YtkegnmclhkpbkaaGreat
open Go Go.RowKit

/-- The outcome: the new slice, of the call's own; nothing else has turned. -/
def InsR (w : World) (B : Nat) (e : TypeId) (sz : Nat) (v : Value) (n : Nat) (ys : List Value) (ed : Ending) (w' : World) : Prop :=
  ∃ v', ed = .returned v' ∧ Own w' B e sz v' (n + 1) ys ∧ w.grownBy w' v.ownBlock

/-- .. and where the new one lies. -/
def InsRA (w : World) (B : Nat) (e : TypeId) (sz : Nat) (v : Value) (n : Nat) (ys : List Value) (ed : Ending) (w' : World) : Prop :=
  ∃ v', ed = .returned v' ∧ Own w' B e sz v' (n + 1) ys ∧ w.grownBy w' v.ownBlock ∧ (v'.ownBlock = v.ownBlock ∨ ∃ k, v'.ownBlock = some k ∧ w.heap.size ≤ k)
theorem InsRA.r {w : World} {B : Nat} {e : TypeId} {sz : Nat} {v : Value} {n : Nat} {ys : List Value} {ed : Ending} {w' : World} (h : InsRA w B e sz v n ys ed w') : InsR w B e sz v n ys ed w' := by
  obtain ⟨v', h1, h2, h3, _⟩ := h
  exact ⟨v', h1, h2, h3⟩
theorem at_new {a b : Option Nat} {n : Nat} (h : a = b ∨ a = some n) : a = b ∨ ∃ k, a = some k ∧ n ≤ k := h.imp id fun h => ⟨n, h, Nat.le_refl _⟩
theorem _root_.Go.World.grownBy.drawnN {w w' : World} {row : Option Nat} (h : w.grownBy w' row) (n : Nat) : w.grownBy (w'.drewN n) row := ⟨h.os, h.tape, h.output, h.size, h.block⟩

theorem append_t2 {P : Program} (w : World) {t t2 e : TypeId} (ty : TypeId) (ht : P.underlying t = some (.slice e)) (ht2 : P.underlying t2 = some (.slice e)) (a b : Value) :
    (Builtin.append_ #[t, t2] ty #[a, b]).run P w = (Builtin.append_ #[t, t] ty #[a, b]).run P w := by
  have h1 := fun w => run_underlying (w := w) ht
  have h2 := fun w => run_underlying (w := w) ht2
  unfold Builtin.append_
  simp only [List.getElem?_toArray, List.getElem?_cons_zero, List.getElem?_cons_succ, Sem.run_bind, h1, Result.andThen_ok]
  cases a <;> simp only [Sem.run_bind, h1, h2, Result.andThen_ok]
theorem wpList_append_q2 {P : Program} (w : World) {ops : Array Oper} {rest : List Oper} {o : Oper} {a : Act} {Q : Exit → Act → World → Prop} (hgd : o.guard = none) (s x : Operand) (t t2 : TypeId)
    (ho : o.op = .call { callee := .builtin .append, args := #[s, x], argTypes := #[t, t2] }) (e : TypeId) (ht2 : P.underlying t2 = some (.slice e))
    (B : Nat) (i : TypeInfo) (z : Value) (size bytes : Nat) (ht : P.underlying t = some (.slice e)) (hi : P.info? e = some i) (hz : i.zero = some z)
    (hsize : i.size = size) (hby : i.bytes = bytes) (hzs : z.cells.size = size) (hsz : 0 < size)
    (v : Value) (n : Nat) (xs : List Value) (hs : a.eval s = v) (hown : Own w B e size v n xs)
    (A : Option Addr) (m c : Nat) (news : List Value) (hx : a.eval x = .slice A m c) (hl : news.length = m * size) (hA : 0 < m → ∃ a, A = some a ∧ ∀ j u, news[j]? = some u → w.cell? (a.add j) = some u) (h1 : ∀ u ∈ news, u.oneCell' = true)
    (h63 : n + m ≤ maxLen) (hbytes : (n + m) * bytes ≤ 140737488355328) (hbase : B ≤ w.heap.size)
    (h : ∀ v' w', Own w' B e size v' (n + m) (xs ++ news) → w.grownBy w' v.ownBlock → (v'.ownBlock = v.ownBlock ∨ v'.ownBlock = some w.heap.size) → wpList P ops Q rest (a.put o.dst v') w') : wpList P ops Q (o :: rest) a w :=
  wpList_plain hgd fun K hK => by
    obtain ⟨v', w', hr, h2, h3, h4⟩ := run_append_q (P := P) w B t o.type e i z size bytes ht hi hz hsize hby hzs hsz v n xs hown A m c news hl hA h1 h63 hbytes hbase
    have hr2 := (append_t2 w o.type ht ht2 v (.slice A m c)).trans hr
    unfold Oper.wp execOp
    simp only [ho, resolve, invoke, builtin, Sem.run_bind, Sem.run_pure, Result.andThen_ok, List.map_toArray, List.map_cons, List.map_nil, hs, hx, hr2]
    exact hK _ _ (h v' w' h2 h3 h4)

theorem ins_fld_info : (Tryz.prog.info? 135).map (fun i => (i.zero, i.size, i.bytes)) = some (some (.agg #[.string .empty, .int .i64 0, .bool false, .bool false]), 4, 32) := by kernel_rfl
set_option maxRecDepth 100000 in
set_option maxHeartbeats 8000000 in
theorem ins_fld_at (w : World) (B : Nat) (v : Value) (n : Nat) (xs : List Value) (hown : Own w B 135 4 v n xs) (i : Nat) (hi : i ≤ n) (vb : Nat) (cs : List Value) (hcl : cs.length = 4)
    (hcs : w.heap[vb]? = some (.cells cs.toArray 135 (0, 0))) (h1 : ∀ u ∈ cs, u.oneCell' = true) (hx1 : ∀ u ∈ xs, u.oneCell' = true) (hne : v.ownBlock ≠ some vb) (hB : B ≤ w.heap.size) (hn : n ≤ 1000000) :
    Calls Tryz.prog 123 #[v, .int .i64 i, .slice (some ⟨vb, 0, none⟩) 1 1] w (InsRA w B 135 4 v n (xs.take (i * 4) ++ cs ++ xs.drop (i * 4))) := by
  obtain ⟨i0, ei, ez, ez1, ez2⟩ := info_parts ins_fld_info
  have hc : ∀ (W : World), W.heap[vb]? = w.heap[vb]? → ∀ j u, cs[j]? = some u → W.cell? ⟨vb, j, none⟩ = some u := fun W hW j u hj => by
    rw [cell_of_row W vb j _ _ _ (hW.trans hcs)]; simpa using hj
  have hlen := hown.1
  by_cases hin : i = n
  · subst hin
    have e1 : xs.take (i * 4) ++ cs ++ xs.drop (i * 4) = xs ++ cs := by rw [← hlen, List.take_length, List.drop_length, List.append_nil]
    rw [e1]
    have H := hown
    rcases hown.2 with ⟨rfl, rfl⟩ | ⟨g, o, cap, cur, rfl, hbg, hg, hnc, hcm, hfit, htk⟩
    · go_enter Tryz.func123, Tryz.ntmps123
      go_wp2_with (first
        | (at_builtin; refine wpList_append_q2 _ rfl (.tmp 23) (.tmp 24) 131 131 rfl 135 Tryz.underlying131 B i0 (.agg #[.string .empty, .int .i64 0, .bool false, .bool false]) 4 32 Tryz.underlying131 ei ez ez1 ez2 rfl (by decide) (.slice none 0 0) 0 xs rfl H (some ⟨vb, 0, none⟩) 1 1 cs rfl (by omega) (fun _ => ⟨_, rfl, fun j u hj => by rw [addr_add, Nat.zero_add]; exact hc w rfl j u hj⟩) h1 (by unfold maxLen; omega) (by omega) hB ?_; intro v7 w7 hown7 hg7 hat7))
      go_ret
      exact ⟨_, rfl, hown7, hg7, at_new hat7⟩
    · go_enter Tryz.func123, Tryz.ntmps123
      go_wp2_with (first
        | (at_builtin; refine wpList_append_q2 _ rfl (.tmp 23) (.tmp 24) 131 131 rfl 135 Tryz.underlying131 B i0 (.agg #[.string .empty, .int .i64 0, .bool false, .bool false]) 4 32 Tryz.underlying131 ei ez ez1 ez2 rfl (by decide) (.slice (some ⟨g, o, none⟩) i cap) i xs rfl H (some ⟨vb, 0, none⟩) 1 1 cs rfl (by omega) (fun _ => ⟨_, rfl, fun j u hj => by rw [addr_add, Nat.zero_add]; exact hc w rfl j u hj⟩) h1 (by unfold maxLen; omega) (by omega) hB ?_; intro v7 w7 hown7 hg7 hat7))
      all_goals go_ret
      all_goals exact ⟨_, rfl, hown7, hg7, at_new hat7⟩
  · have hlt : i < n := by omega
    rcases hown.2 with ⟨_, h0⟩ | ⟨g, o, cap, cur, rfl, hbg, hg, hnc, hcm, hfit, htk⟩
    · omega
    have hgl : g < w.heap.size := (Array.getElem?_eq_some_iff.1 hg).1
    have hgv : g ≠ vb := fun e => hne (by simp [Value.ownBlock, e])
    have hin' : ¬ ((i : Int) = (n : Int)) := by omega
    have hin2 : decide ((i : Int) = (n : Int)) = false := decide_eq_false hin'
    have hlt' : (i : Int) < (n : Int) := by omega
    have hn' : (n : Int) ≤ 1000000 := by omega
    have hY : Hid (xs.take (i * 4) ++ cs ++ xs.drop (i * 4) = xs.take (i * 4) ++ cs ++ xs.drop (i * 4)) := rfl
    generalize hYY : xs.take (i * 4) ++ cs ++ xs.drop (i * 4) = ys at hY
    by_cases hroom : n + 1 ≤ cap
    · obtain ⟨W1, W2, c1, c2, hfin⟩ := ins_room (P := Tryz.prog) w B 135 131 131 i0 4 Tryz.underlying131 ei ez1 (by decide) g o n cap xs hown i hlt vb cs hcl hcs h1 hx1 hgv hroom
      have hap := ins_apart (P := Tryz.prog) w B 135 131 i0 4 Tryz.underlying131 ei ez1 (by decide) g o n cap xs hown i hlt vb cs hcl hcs hgv hroom 4
      rw [hYY] at hfin
      rw [show n + 1 - (i + 1) = n - i by omega] at c1
      have C1 := Lib.hid c1
      have C2 := Lib.hid c2
      have HF := Lib.hid hfin
      have HA := Lib.hid hap
      have hr1 : decide ((cap : Int) < (n : Int) + 1) = false := decide_eq_false (by omega)
      have hr2 : ¬ ((cap : Int) < (n : Int) + 1) := by omega
      have hr3 : n + 1 ≤ cap := hroom
      clear c1 c2 hfin hap hown hc h1 hx1 hcs hg hcl htk hlen hYY hY hne ei ez ez1 ez2
      go_enter Tryz.func123, Tryz.ntmps123
      go_wp2_with fail
      rw [run_callFunc_extern Tryz.func132 (by kernel_rfl) (by kernel_rfl) (by kernel_rfl) (e := Extern.SlicesOverlaps.overlaps #[131, 131] #[4]) (by kernel_rfl), HA.out]
      simp only [Result.andThen]
      rw [Oper.upon_value]
      go_wp2_with fail
      refine wp_mid_k 8 _ rfl rfl (by kernel_rfl) (by kernel_rfl) ?_
      simp only [List.take_succ_cons, List.take_zero, List.drop_succ_cons, List.drop_zero]
      repeat (go_big_quiet_step (fail))
      refine wpQuiet_nil ?_
      intro _ hw'
      obtain ⟨nq, hw''⟩ := hw'
      subst hw''
      intro K hK
      refine wp_copy_q _ (.tmp 73) (.tmp 76) _ _ rfl _ _ rfl rfl (C1.out nq _) ?_
      refine hK _ _ ?_
      refine wpQuiet_nil ?_
      intro _ hw'
      obtain ⟨nq2, hw''⟩ := hw'
      subst hw''
      go_wp2_with fail
      rw [C2.out]
      simp only [Result.andThen]
      rw [Oper.upon_value]
      go_wp2_with fail
      go_ret
      exact ⟨_, rfl, (HF.out nq nq2).1, (HF.out nq nq2).2, .inl rfl⟩
    · obtain ⟨G, W1, W2, W3, hG, c0, c1, c2, hfin⟩ := ins_grow (P := Tryz.prog) w B 135 131 131 3 i0 (.agg #[.string .empty, .int .i64 0, .bool false, .bool false]) 4 32 Tryz.underlying131 Tryz.underlying3 ei ez ez1 ez2 rfl (by decide) (by decide) g o n cap xs hown i hlt hn vb cs hcl hcs h1 hx1 hB (by omega)
      rw [hYY] at hfin
      rw [show n + 1 - (i + 1) = n - i by omega] at c2
      have C0 := Lib.hid c0
      have C1 := Lib.hid c1
      have C2 := Lib.hid c2
      have HF := Lib.hid hfin
      have hr1 : decide ((cap : Int) < (n : Int) + 1) = true := decide_eq_true (by omega)
      have hr2 : (cap : Int) < (n : Int) + 1 := by omega
      have hik : i ≤ n + 1 := by omega
      have hG2 : (n : Int) + 1 ≤ (G : Int) := by omega
      have hi1 : i + 1 ≤ n + 1 := by omega
      clear c0 c1 c2 hfin hown hc h1 hx1 hcs hg hcl htk hlen hYY hY hne ei ez ez1 ez2
      go_enter Tryz.func123, Tryz.ntmps123
      go_wp2_with (first
        | (at_builtin; refine wpList_append_z _ rfl (.tmp 34) (.tmp 39) _ _ rfl _ _ rfl rfl (C0.out _) ?_)
        | fail)
      rw [C1.out]
      simp only [Result.andThen]
      rw [Oper.upon_value]
      go_wp2_with fail
      go_frame
      refine wp_mid_k 8 _ rfl rfl (by kernel_rfl) (by kernel_rfl) ?_
      simp only [List.take_succ_cons, List.take_zero, List.drop_succ_cons, List.drop_zero]
      repeat (go_big_quiet_step (fail))
      refine wpQuiet_nil ?_
      intro _ hw'
      obtain ⟨nq, hw''⟩ := hw'
      subst hw''
      intro K hK
      refine wp_copy_q _ (.tmp 50) (.tmp 53) _ _ rfl _ _ rfl rfl (C2.out nq _) ?_
      refine hK _ _ ?_
      refine wpQuiet_nil ?_
      intro _ hw'
      obtain ⟨nq2, hw''⟩ := hw'
      subst hw''
      go_wp2_with fail
      go_ret
      exact ⟨_, rfl, (HF.out nq).1.drewN nq2, ((HF.out nq).2 _).drawnN nq2, .inr ⟨w.heap.size, rfl, Nat.le_refl _⟩⟩
theorem ins_fld (w : World) (B : Nat) (v : Value) (n : Nat) (xs : List Value) (hown : Own w B 135 4 v n xs) (i : Nat) (hi : i ≤ n) (vb : Nat) (cs : List Value) (hcl : cs.length = 4)
    (hcs : w.heap[vb]? = some (.cells cs.toArray 135 (0, 0))) (h1 : ∀ u ∈ cs, u.oneCell' = true) (hx1 : ∀ u ∈ xs, u.oneCell' = true) (hne : v.ownBlock ≠ some vb) (hB : B ≤ w.heap.size) (hn : n ≤ 1000000) :
    Calls Tryz.prog 123 #[v, .int .i64 i, .slice (some ⟨vb, 0, none⟩) 1 1] w (InsR w B 135 4 v n (xs.take (i * 4) ++ cs ++ xs.drop (i * 4))) :=
  (ins_fld_at w B v n xs hown i hi vb cs hcl hcs h1 hx1 hne hB hn).mono fun _ _ h => h.r
theorem ins_prp_info : (Tryz.prog.info? 45).map (fun i => (i.zero, i.size, i.bytes)) = some (some (.agg #[.string .empty, .int .i64 0, .int .i64 0, .string .empty]), 4, 48) := by kernel_rfl
set_option maxRecDepth 100000 in
set_option maxHeartbeats 8000000 in
theorem ins_prp_at (w : World) (B : Nat) (v : Value) (n : Nat) (xs : List Value) (hown : Own w B 45 4 v n xs) (i : Nat) (hi : i ≤ n) (vb : Nat) (cs : List Value) (hcl : cs.length = 4)
    (hcs : w.heap[vb]? = some (.cells cs.toArray 45 (0, 0))) (h1 : ∀ u ∈ cs, u.oneCell' = true) (hx1 : ∀ u ∈ xs, u.oneCell' = true) (hne : v.ownBlock ≠ some vb) (hB : B ≤ w.heap.size) (hn : n ≤ 1000000) :
    Calls Tryz.prog 64 #[v, .int .i64 i, .slice (some ⟨vb, 0, none⟩) 1 1] w (InsRA w B 45 4 v n (xs.take (i * 4) ++ cs ++ xs.drop (i * 4))) := by
  obtain ⟨i0, ei, ez, ez1, ez2⟩ := info_parts ins_prp_info
  have hc : ∀ (W : World), W.heap[vb]? = w.heap[vb]? → ∀ j u, cs[j]? = some u → W.cell? ⟨vb, j, none⟩ = some u := fun W hW j u hj => by
    rw [cell_of_row W vb j _ _ _ (hW.trans hcs)]; simpa using hj
  have hlen := hown.1
  by_cases hin : i = n
  · subst hin
    have e1 : xs.take (i * 4) ++ cs ++ xs.drop (i * 4) = xs ++ cs := by rw [← hlen, List.take_length, List.drop_length, List.append_nil]
    rw [e1]
    have H := hown
    rcases hown.2 with ⟨rfl, rfl⟩ | ⟨g, o, cap, cur, rfl, hbg, hg, hnc, hcm, hfit, htk⟩
    · go_enter Tryz.func64, Tryz.ntmps64
      go_wp2_with (first
        | (at_builtin; refine wpList_append_q2 _ rfl (.tmp 23) (.tmp 24) 32 31 rfl 45 Tryz.underlying31 B i0 (.agg #[.string .empty, .int .i64 0, .int .i64 0, .string .empty]) 4 48 Tryz.underlying32 ei ez ez1 ez2 rfl (by decide) (.slice none 0 0) 0 xs rfl H (some ⟨vb, 0, none⟩) 1 1 cs rfl (by omega) (fun _ => ⟨_, rfl, fun j u hj => by rw [addr_add, Nat.zero_add]; exact hc w rfl j u hj⟩) h1 (by unfold maxLen; omega) (by omega) hB ?_; intro v7 w7 hown7 hg7 hat7))
      go_ret
      exact ⟨_, rfl, hown7, hg7, at_new hat7⟩
    · go_enter Tryz.func64, Tryz.ntmps64
      go_wp2_with (first
        | (at_builtin; refine wpList_append_q2 _ rfl (.tmp 23) (.tmp 24) 32 31 rfl 45 Tryz.underlying31 B i0 (.agg #[.string .empty, .int .i64 0, .int .i64 0, .string .empty]) 4 48 Tryz.underlying32 ei ez ez1 ez2 rfl (by decide) (.slice (some ⟨g, o, none⟩) i cap) i xs rfl H (some ⟨vb, 0, none⟩) 1 1 cs rfl (by omega) (fun _ => ⟨_, rfl, fun j u hj => by rw [addr_add, Nat.zero_add]; exact hc w rfl j u hj⟩) h1 (by unfold maxLen; omega) (by omega) hB ?_; intro v7 w7 hown7 hg7 hat7))
      all_goals go_ret
      all_goals exact ⟨_, rfl, hown7, hg7, at_new hat7⟩
  · have hlt : i < n := by omega
    rcases hown.2 with ⟨_, h0⟩ | ⟨g, o, cap, cur, rfl, hbg, hg, hnc, hcm, hfit, htk⟩
    · omega
    have hgl : g < w.heap.size := (Array.getElem?_eq_some_iff.1 hg).1
    have hgv : g ≠ vb := fun e => hne (by simp [Value.ownBlock, e])
    have hin' : ¬ ((i : Int) = (n : Int)) := by omega
    have hin2 : decide ((i : Int) = (n : Int)) = false := decide_eq_false hin'
    have hlt' : (i : Int) < (n : Int) := by omega
    have hn' : (n : Int) ≤ 1000000 := by omega
    have hY : Hid (xs.take (i * 4) ++ cs ++ xs.drop (i * 4) = xs.take (i * 4) ++ cs ++ xs.drop (i * 4)) := rfl
    generalize hYY : xs.take (i * 4) ++ cs ++ xs.drop (i * 4) = ys at hY
    by_cases hroom : n + 1 ≤ cap
    · obtain ⟨W1, W2, c1, c2, hfin⟩ := ins_room (P := Tryz.prog) w B 45 32 31 i0 4 Tryz.underlying32 ei ez1 (by decide) g o n cap xs hown i hlt vb cs hcl hcs h1 hx1 hgv hroom
      have hap := ins_apart (P := Tryz.prog) w B 45 31 i0 4 Tryz.underlying31 ei ez1 (by decide) g o n cap xs hown i hlt vb cs hcl hcs hgv hroom 4
      rw [hYY] at hfin
      rw [show n + 1 - (i + 1) = n - i by omega] at c1
      have C1 := Lib.hid c1
      have C2 := Lib.hid c2
      have HF := Lib.hid hfin
      have HA := Lib.hid hap
      have hr1 : decide ((cap : Int) < (n : Int) + 1) = false := decide_eq_false (by omega)
      have hr2 : ¬ ((cap : Int) < (n : Int) + 1) := by omega
      have hr3 : n + 1 ≤ cap := hroom
      clear c1 c2 hfin hap hown hc h1 hx1 hcs hg hcl htk hlen hYY hY hne ei ez ez1 ez2
      go_enter Tryz.func64, Tryz.ntmps64
      go_wp2_with fail
      rw [run_callFunc_extern Tryz.func95 (by kernel_rfl) (by kernel_rfl) (by kernel_rfl) (e := Extern.SlicesOverlaps.overlaps #[31, 31] #[4]) (by kernel_rfl), HA.out]
      simp only [Result.andThen]
      rw [Oper.upon_value]
      go_wp2_with fail
      refine wp_mid_k 8 _ rfl rfl (by kernel_rfl) (by kernel_rfl) ?_
      simp only [List.take_succ_cons, List.take_zero, List.drop_succ_cons, List.drop_zero]
      repeat (go_big_quiet_step (fail))
      refine wpQuiet_nil ?_
      intro _ hw'
      obtain ⟨nq, hw''⟩ := hw'
      subst hw''
      intro K hK
      refine wp_copy_q _ (.tmp 73) (.tmp 76) _ _ rfl _ _ rfl rfl (C1.out nq _) ?_
      refine hK _ _ ?_
      refine wpQuiet_nil ?_
      intro _ hw'
      obtain ⟨nq2, hw''⟩ := hw'
      subst hw''
      go_wp2_with fail
      rw [C2.out]
      simp only [Result.andThen]
      rw [Oper.upon_value]
      go_wp2_with fail
      go_ret
      exact ⟨_, rfl, (HF.out nq nq2).1, (HF.out nq nq2).2, .inl rfl⟩
    · obtain ⟨G, W1, W2, W3, hG, c0, c1, c2, hfin⟩ := ins_grow (P := Tryz.prog) w B 45 32 31 3 i0 (.agg #[.string .empty, .int .i64 0, .int .i64 0, .string .empty]) 4 48 Tryz.underlying32 Tryz.underlying3 ei ez ez1 ez2 rfl (by decide) (by decide) g o n cap xs hown i hlt hn vb cs hcl hcs h1 hx1 hB (by omega)
      rw [hYY] at hfin
      rw [show n + 1 - (i + 1) = n - i by omega] at c2
      have C0 := Lib.hid c0
      have C1 := Lib.hid c1
      have C2 := Lib.hid c2
      have HF := Lib.hid hfin
      have hr1 : decide ((cap : Int) < (n : Int) + 1) = true := decide_eq_true (by omega)
      have hr2 : (cap : Int) < (n : Int) + 1 := by omega
      have hik : i ≤ n + 1 := by omega
      have hG2 : (n : Int) + 1 ≤ (G : Int) := by omega
      have hi1 : i + 1 ≤ n + 1 := by omega
      clear c0 c1 c2 hfin hown hc h1 hx1 hcs hg hcl htk hlen hYY hY hne ei ez ez1 ez2
      go_enter Tryz.func64, Tryz.ntmps64
      go_wp2_with (first
        | (at_builtin; refine wpList_append_z _ rfl (.tmp 34) (.tmp 39) _ _ rfl _ _ rfl rfl (C0.out _) ?_)
        | fail)
      rw [C1.out]
      simp only [Result.andThen]
      rw [Oper.upon_value]
      go_wp2_with fail
      go_frame
      refine wp_mid_k 8 _ rfl rfl (by kernel_rfl) (by kernel_rfl) ?_
      simp only [List.take_succ_cons, List.take_zero, List.drop_succ_cons, List.drop_zero]
      repeat (go_big_quiet_step (fail))
      refine wpQuiet_nil ?_
      intro _ hw'
      obtain ⟨nq, hw''⟩ := hw'
      subst hw''
      intro K hK
      refine wp_copy_q _ (.tmp 50) (.tmp 53) _ _ rfl _ _ rfl rfl (C2.out nq _) ?_
      refine hK _ _ ?_
      refine wpQuiet_nil ?_
      intro _ hw'
      obtain ⟨nq2, hw''⟩ := hw'
      subst hw''
      go_wp2_with fail
      go_ret
      exact ⟨_, rfl, (HF.out nq).1.drewN nq2, ((HF.out nq).2 _).drawnN nq2, .inr ⟨w.heap.size, rfl, Nat.le_refl _⟩⟩
theorem ins_prp (w : World) (B : Nat) (v : Value) (n : Nat) (xs : List Value) (hown : Own w B 45 4 v n xs) (i : Nat) (hi : i ≤ n) (vb : Nat) (cs : List Value) (hcl : cs.length = 4)
    (hcs : w.heap[vb]? = some (.cells cs.toArray 45 (0, 0))) (h1 : ∀ u ∈ cs, u.oneCell' = true) (hx1 : ∀ u ∈ xs, u.oneCell' = true) (hne : v.ownBlock ≠ some vb) (hB : B ≤ w.heap.size) (hn : n ≤ 1000000) :
    Calls Tryz.prog 64 #[v, .int .i64 i, .slice (some ⟨vb, 0, none⟩) 1 1] w (InsR w B 45 4 v n (xs.take (i * 4) ++ cs ++ xs.drop (i * 4))) :=
  (ins_prp_at w B v n xs hown i hi vb cs hcl hcs h1 hx1 hne hB hn).mono fun _ _ h => h.r
end Go.Proofs.YtkegnmclhkpbkaaGreat

/- Contracts: record.Find, record.Get, record.Set. -/
namespace Go.Proofs.YtkegnmclhkpbkaaGreat
open Go Go.RowKit


theorem clone_prps_info : (Tryz.prog.info? 45).map (fun i => (i.zero, i.size, i.bytes)) = some (some (.agg #[.string .empty, .int .i64 0, .int .i64 0, .string .empty]), 4, 48) := by kernel_rfl
set_option maxHeartbeats 2000000 in
theorem clone_prps {w : World} {v : Value} {l : List Prp} (hv : Sl prpL w v l) (hl : l.length ≤ 1048576) : Calls Tryz.prog 44 #[v] w (CloneR prpL 45 l w) := by
  obtain ⟨i0, ei, ez, ez1, ez2⟩ := info_parts clone_prps_info
  obtain ⟨A, c, rfl, _, _⟩ := hv.form
  obtain ⟨xs, hr, hx⟩ := Row.of_sl hv
  have hlen := hr.len
  have h1 := hr.oneCell one_prp
  have q22 : ∀ (w : World) (a : Option Addr) (n c n' c' : Nat), (binOp .eql 32 (.slice a n c) (.slice none n' c')).run Tryz.prog w = .ok (.bool a.isNone) w := fun w a n c n' c' => Lib.run_eql_slice_nil w _ _ a n c n' c' Tryz.underlying32
  cases A with
  | none =>
    have h0 : l = [] := by
      rcases Nat.eq_zero_or_pos l.length with h | h
      · exact List.eq_nil_of_length_eq_zero h
      · obtain ⟨_, _, hA, _⟩ := hx h; cases hA
    subst h0
    clear hv hr hx hlen h1
    go_enter Tryz.func44, Tryz.ntmps44
    go_wp2_with fail
    go_ret
    exact ⟨_, [], rfl, Own.nil _ _ _ _, rfl, Below.refl _ _⟩
  | some a =>
    have hX : Hid (0 < l.length → ∃ b o, (some a : Option Addr) = some ⟨b, o, none⟩ ∧ ∀ j u, xs[j]? = some u → w.cell? ⟨b, o + j, none⟩ = some u) := hx
    have hR := Lib.hid hr
    have hL := Lib.hid hlen
    have h1H := Lib.hid h1
    clear hv hr hx hlen h1
    go_enter Tryz.func44, Tryz.ntmps44
    go_wp2_with (at_builtin; refine wpList_append_q _ rfl (.tmp 5) (.tmp 6) 32 rfl w.heap.size 45 i0 (.agg #[.string .empty, .int .i64 0, .int .i64 0, .string .empty]) 4 48 Tryz.underlying32 ei ez ez1 ez2 rfl (by decide) (.slice (some ⟨w.heap.size, 0, none⟩) 0 0) 0 [] rfl Own.made (some a) l.length c xs rfl hL.out (fun hp => by
        obtain ⟨b, o, hA, hy⟩ := hX.out hp
        exact ⟨_, hA, fun j u hj => by rw [addr_add]; exact cell_below ((Below.refl _ _).alloc (Nat.le_refl _) _) (hy j u hj)⟩) h1H.out (by unfold maxLen; omega) (by omega) (by simp) ?_; intro v7 w7 hown7 hg7 hat7)
    have hb7 : Below w.heap.size w w7 := ((Below.refl _ _).alloc (Nat.le_refl _) _).grown hg7 (by simp) (fun k hk => Nat.le_of_eq (by simpa [Value.ownBlock] using hk))
    simp only [Nat.zero_add, List.nil_append] at hown7
    clear hg7 hat7
    go_ret
    exact ⟨_, xs, rfl, hown7, hR.out, hb7⟩

/-! ### The order of names -/
theorem less_cmp : ∀ (a b : List UInt8), Op.bytesLess a b = decide (Lib.compareBytes a b < 0)
  | [], [] => by simp [Op.bytesLess, Lib.compareBytes]
  | [], _ :: _ => by simp [Op.bytesLess, Lib.compareBytes]
  | _ :: _, [] => by simp [Op.bytesLess, Lib.compareBytes]
  | x :: a, y :: b => by
    rw [Op.bytesLess, Lib.compareBytes, less_cmp a b]
    by_cases h1 : x < y
    · simp [h1]
    · by_cases h2 : y < x
      · have : x ≠ y := fun e => by subst e; exact absurd h2 h1
        simp [h1, h2, this]
      · have e : x = y := by
          apply UInt8.toNat_inj.1
          simp [UInt8.lt_iff_toNat_lt] at h1 h2
          omega
        subst e
        simp [h1]
theorem ltS_cmp (a b : ByteArray) : ltS a b = decide (cmpS a b < 0) := by
  unfold ltS cmpS
  rw [less_cmp, ByteArray.toList_eq, ByteArray.toList_eq]
theorem prpC_mono (nm : ByteArray) : ∀ a b, prpLt a b = true → 0 ≤ prpC nm a → 0 ≤ prpC nm b := by
  intro a b h h1
  unfold prpLt at h
  rw [ltS_cmp] at h
  unfold prpC at h1 ⊢
  simp at h
  by_cases hb : cmpS b.name nm < 0
  · have := cmpS_trans h hb; omega
  · omega
theorem rec_ok {r : List Prp} (h : recE r = 0) : r.length ≤ 8 ∧ (∀ p ∈ r, prpE p = 0) ∧ chain prpLt r = true := by
  unfold recE at h
  by_cases h1 : 8 < r.length
  · rw [if_pos h1] at h; omega
  rw [if_neg h1] at h
  by_cases h2 : firstE prpE r = 0
  · rw [if_pos h2] at h
    cases hc : chain (fun a b : Prp => ltS a.name b.name) r with
    | true =>
      refine ⟨by omega, fun p hp => ?_, hc⟩
      have key : ∀ l : List Prp, firstE prpE l = 0 → ∀ p ∈ l, prpE p = 0 := by
        intro l
        induction l with
        | nil => intro _ p hp; simp at hp
        | cons a l ih =>
          intro h p hp
          rw [firstE] at h
          split at h
          · rename_i h0
            rcases List.mem_cons.1 hp with rfl | hp
            · exact h0
            · exact ih h p hp
          · rename_i h0; exact absurd h h0
      exact key r h2 p hp
    | false => rw [hc] at h; simp at h
  · rw [if_neg h2] at h; exact absurd h h2
theorem rfind1_any (d : Prp) (nm : ByteArray) (w : World) :
    Calls Tryz.prog 94 #[.agg #[.string d.name, .int .i64 d.v.ty, .int .i64 d.v.n, .string d.v.s], .string nm] w fun e w' => e = .returned (.int .i64 (cmpS d.name nm)) ∧ Below w.heap.size w w' := by
  go_enter Tryz.func94, Tryz.ntmps94
  go_wp2_with (go_at_call 57; refine (scmp_any _ _ _).mono ?_; rintro e w' ⟨rfl, rfl⟩)
  go_ret
  exact ⟨rfl, (Below.refl _ _).alloc (Nat.le_refl _) _⟩
theorem rfind_any (r : List Prp) (nm : ByteArray) (v : Value) (w : World) (hv : Sl prpL w v r) (hc : chain prpLt r = true) (hl : r.length ≤ 1000) :
    Calls Tryz.prog 63 #[v, .string nm] w fun e w' => e = .returned (.tuple #[.int .i64 (rpos r nm), .bool (rhas r nm)]) ∧ Below w.heap.size w w' := by
  have hcall := bs_prp 94 #[] (by intro args w; kernel_rfl) (.string nm) (prpC nm) r v w hv (fun d u wx _ hu => by obtain ⟨rfl, _⟩ := hu; exact rfind1_any d nm wx) (rpos r nm) hl (lowI_le _ _)
    (fun i d hi hd => low_lt hi hd) (fun i d hi hd => low_ge hc (prpC_mono nm) hi hd)
  obtain ⟨A, c, rfl, _, _⟩ := hv.form
  have HE : Hid (rhas r nm = eqAt (prpC nm) r (rpos r nm)) := rfl
  clear hv hc
  generalize eqAt (prpC nm) r (rpos r nm) = B at *
  generalize rpos r nm = K at *
  go_enter Tryz.func63, Tryz.ntmps63
  go_wp2_with fail
  refine hcall.mono ?_
  rintro e w' ⟨rfl, hb⟩
  go_wp2_with fail
  go_ret2
  exact ⟨by rw [HE.out]; rfl, hb⟩

/-! ### record.Get -/
theorem res3 {w w1 : World} {T : TypeId} {c0 c1 c2 : Value} (a b c : Value) (hB : Below w.heap.size w w1) (h : w1.heap[w.heap.size]? = some (.cells #[c0, c1, c2] T (0, 0))) :
    Below w.heap.size w (((w1.setCell ⟨w.heap.size, 0, none⟩ a).setCell ⟨w.heap.size, 1, none⟩ b).setCell ⟨w.heap.size, 2, none⟩ c) ∧
    (((w1.setCell ⟨w.heap.size, 0, none⟩ a).setCell ⟨w.heap.size, 1, none⟩ b).setCell ⟨w.heap.size, 2, none⟩ c).cell? ⟨w.heap.size, 0, none⟩ = some a ∧
    (((w1.setCell ⟨w.heap.size, 0, none⟩ a).setCell ⟨w.heap.size, 1, none⟩ b).setCell ⟨w.heap.size, 2, none⟩ c).cell? ⟨w.heap.size, 1, none⟩ = some b ∧
    (((w1.setCell ⟨w.heap.size, 0, none⟩ a).setCell ⟨w.heap.size, 1, none⟩ b).setCell ⟨w.heap.size, 2, none⟩ c).cell? ⟨w.heap.size, 2, none⟩ = some c := by
  have h3 := setCell_block (setCell_block (setCell_block h 0 a) 1 b) 2 c
  exact ⟨((hB.setCell (p := ⟨_, 0, none⟩) (Nat.le_refl _) _).setCell (p := ⟨_, 1, none⟩) (Nat.le_refl _) _).setCell (p := ⟨_, 2, none⟩) (Nat.le_refl _) _, block_cell h3 0, block_cell h3 1, block_cell h3 2⟩
def getE (r : List Prp) (nm : ByteArray) : Int := if recE r = 0 then (if rhas r nm then 0 else 5) else recE r
def noVal : Val := ⟨0, 0, .empty⟩
def getV (r : List Prp) (nm : ByteArray) : Val := if getE r nm = 0 then (match r[rpos r nm]? with | some p => p.v | none => noVal) else noVal
theorem rhas_some {r : List Prp} {nm : ByteArray} (h : rhas r nm = true) : ∃ p, r[rpos r nm]? = some p := by
  unfold rhas eqAt at h
  cases hd : r[rpos r nm]? with
  | none => rw [hd] at h; simp at h
  | some d => exact ⟨d, rfl⟩
end Go.Proofs.YtkegnmclhkpbkaaGreat
