/- Contract: slices.DeleteFunc at Record. -/
import Derived.Test.YtdfeloeainabjaaDoorDelA
import Derived.Test.YtdfeloeainabjaaDoorRecS
import Derived.Test.YtdfeloeainabjaaDoorKinG
namespace Go.Proofs.YtdfeloeainabjaaDoor
open Go Go.RowKit



def prpO (_ : World) (d : Prp) (u : Value) : Prop := u = .agg #[.string d.name, .int .i64 d.v.ty, .int .i64 d.v.n, .string d.v.s] ∧ d.ok
set_option maxHeartbeats 400000 in
theorem idx_prps (g : Nat) (caps : Array Value) (eg : ∀ args w, (callFunc g args).run Tryd.prog w = .ok (.enter g args) w) (p : Prp → Bool) (l : List (Prp)) (v : Value) (w : World) (hv : Sl prpL w v l)
    (hp : PredB Tryd.prog g caps prpO p w) :
    Calls Tryd.prog 68 #[v, .func (.func g) #[] caps] w fun e w' => e = .returned (.int .i64 (idxI p l)) ∧ Below w.heap.size w w' := by
  obtain ⟨A, c, rfl, hlc, hcm⟩ := hv.form
  unfold maxLen at hcm
  go_enter Tryd.func68, Tryd.ntmps68
  go_wp2_with fail
  go_loopw [8] (fun i wr => ∃ k : Nat, k ≤ l.length ∧ i = .int .i64 k ∧ Below w.heap.size w wr ∧ Hid (∀ j x, j < k → l[j]? = some x → p x = false)) (fun i _ => l.length - (intOf i).toNat)
  case atStart => exact ⟨0, Nat.zero_le _, rfl, Below.refl _ _, fun j x hj => absurd hj (Nat.not_lt_zero _)⟩
  case round =>
    obtain ⟨k, hk, rfl, hb, HA⟩ := hrel
    by_cases hlt : k < l.length
    · obtain ⟨d, hd⟩ : ∃ d, l[k]? = some d := ⟨_, List.getElem?_eq_getElem hlt⟩
      obtain ⟨b, o, rfl, hsm, x0, x1, x2, x3⟩ := prp_at (hv.below hb) hd
      have hcall := hp d _ wr hb ⟨rfl, hsm⟩
      have HD : Hid (l[k]? = some d) := hd
      clear hd hp hv
      cases hq : p d with
      | true =>
        rw [hq] at hcall
        have HQ : Hid (p d = true) := hq
        clear hq
        go_wp2_with (go_at_fn g; refine hcall.mono ?_; rintro e w' ⟨rfl, hb2⟩)
        go_ret
        exact ⟨ret_int (idxI_hit HA.out HD.out HQ.out).symm, hb.trans (hb2.mono hb.size)⟩
      | false =>
        rw [hq] at hcall
        have HQ : Hid (p d = false) := hq
        clear hq
        go_wp2_with (go_at_fn g; refine hcall.mono ?_; rintro e w' ⟨rfl, hb2⟩)
        go_roundw
        case rel => exact ⟨k + 1, by omega, by go_num, hb.trans (hb2.mono hb.size), miss_step HA.out HD.out HQ.out⟩
        case measure => simp [intOf]; omega
    · have hkl : k = l.length := by omega
      subst hkl
      clear hp hv
      go_wp2_with fail
      go_ret
      exact ⟨ret_int (idxI_miss HA.out).symm, hb⟩
set_option maxRecDepth 100000 in
set_option maxHeartbeats 4000000 in
theorem del_prps (g : Nat) (caps : Array Value) (eg : ∀ args w, (callFunc g args).run Tryd.prog w = .ok (.enter g args) w) (p : Prp → Bool) (l : List Prp) (v : Value) (B : Nat) (w : World) (hB : B ≤ w.heap.size)
    (hown : Own w B 43 4 v l.length (l.flatMap Prp.enc)) (hok : ∀ x ∈ l, x.ok) (hl : l.length ≤ 1000) (hp : PredO Tryd.prog g caps (fun d u => u = (.agg #[.string d.name, .int .i64 d.v.ty, .int .i64 d.v.n, .string d.v.s]) ∧ d.ok) p B w) :
    Calls Tryd.prog 43 #[v, .func (.func g) #[] caps] w fun e w' => ∃ u, e = .returned u ∧ Own w' B 43 4 u (l.filter fun x => !p x).length ((l.filter fun x => !p x).flatMap Prp.enc) ∧ w.grownBy w' v.ownBlock ∧ u.ownBlock = v.ownBlock := by
  obtain ⟨i0, ei, ez, ez1, ez2⟩ := info_parts clone_prps_info
  have hidx := idx_prps g caps eg p l _ w (hown.prps hok) (fun x u wx hb hu => hp x u wx (hb.mono hB) hu)
  rcases idxI_cases p l with ⟨h1, h2⟩ | ⟨k0, d0, h1, h2, h3⟩
  · rw [h1] at hidx
    obtain ⟨A, c, rfl, hlc, hcm⟩ := hown.form
    have H2 := Lib.hid h2
    have HO := Lib.hid hown
    clear h1 h2 hown hp hok
    go_enter Tryd.func43, Tryd.ntmps43
    go_wp2_with (go_at_call 68; refine hidx.mono ?_; rintro e w1 ⟨rfl, hb1⟩)
    go_ret
    exact ⟨_, rfl, by rw [H2.out]; exact HO.out.below hb1, grownBy_below hb1 _, rfl⟩
  · rw [h1] at hidx
    obtain ⟨g0, o0, c, rfl, hBg, hgl⟩ := hown.addr (len_pos h2)
    obtain ⟨_, c', hv, hlc, hcm⟩ := hown.form
    injection hv with hvA hvL hvC
    subst hvC; subst hvA
    clear hvL
    unfold maxLen at hcm
    have HK0 := Lib.hid h3
    have hk0l := (List.getElem?_eq_some_iff.1 h2).1
    have HP := Lib.hid hp
    have HOK := Lib.hid hok
    have HO := Lib.hid hown
    have hkl : (k0 : Int) + 1 ≤ (l.length : Int) := by omega
    have hl2 : (l.length : Int) ≤ 1000 := by omega
    have hne : ((k0 : Int) == -1) = false := beq_eq_false_iff_ne.2 (by omega)
    have hown' : Own w B 43 4 (.slice (some ⟨g0, o0, none⟩) l.length c) l.length (l.flatMap Prp.enc) := hown
    clear h1 h2 h3 hown hp hok
    go_enter Tryd.func43, Tryd.ntmps43
    go_wp2_with (go_at_call 68; refine hidx.mono ?_; rintro e w1 ⟨rfl, hb1⟩)
    have ho1 := hown'.below hb1
    have hgb1 : w.grownBy w1 (some g0) := grownBy_below hb1 _
    clear hidx hown'
    go_loopw [5, 6] (fun i j wr => ∃ (a b : Nat) (dk : List Prp), i = .int .i64 a ∧ j = .int .i64 b ∧ a < b ∧ b ≤ l.length ∧ Own wr B 43 4 (.slice (some ⟨g0, o0, none⟩) l.length c) l.length (dk.flatMap Prp.enc) ∧ w.grownBy wr (some g0) ∧ Hid (Kept p l dk b a)) (fun _ j _ => l.length - (intOf j).toNat)
    case atStart => exact ⟨k0, k0 + 1, l, rfl, by go_num, by omega, by omega, ho1, hgb1, HK0.out⟩
    case round =>
      clear ho1 hgb1
      obtain ⟨a, b, dk, rfl, rfl, hab, hbl, hO, hgr, HK⟩ := hrel
      have hdl := HK.out.len
      have hal : (a : Int) < (l.length : Int) := by omega
      have hgrs := hgr.size
      by_cases hlt : b < l.length
      · obtain ⟨d, hd⟩ : ∃ d, l[b]? = some d := ⟨_, List.getElem?_eq_getElem hlt⟩
        obtain ⟨q, hq⟩ : ∃ q, dk[a]? = some q := ⟨_, List.getElem?_eq_getElem (by omega)⟩
        have hdk : dk[b]? = some d := (HK.out.at hlt).trans hd
        have hlt' : (b : Int) < (l.length : Int) := by omega
        have x0 : wr.cell? ⟨g0, o0 + b * 4, none⟩ = some (.string d.name) := hO.cell (j := b * 4 + 0) rfl (flat_get (j := 0) Prp.enc_len hdk rfl)
        have x1 : wr.cell? ⟨g0, o0 + b * 4 + 1, none⟩ = some (.int .i64 d.v.ty) := hO.cell (j := b * 4 + 1) rfl (flat_get (j := 1) Prp.enc_len hdk rfl)
        have x2 : wr.cell? ⟨g0, o0 + b * 4 + 2, none⟩ = some (.int .i64 d.v.n) := hO.cell (j := b * 4 + 2) rfl (flat_get (j := 2) Prp.enc_len hdk rfl)
        have x3 : wr.cell? ⟨g0, o0 + b * 4 + 3, none⟩ = some (.string d.v.s) := hO.cell (j := b * 4 + 3) rfl (flat_get (j := 3) Prp.enc_len hdk rfl)
        obtain ⟨z0, z1, z2, z3⟩ := cell_box4 wr (.string d.name) (.int .i64 d.v.ty) (.int .i64 d.v.n) (.string d.v.s) 43
        have hbx : Below wr.heap.size wr (wr.alloc (.cells #[.string d.name, .int .i64 d.v.ty, .int .i64 d.v.n, .string d.v.s] 43)) := (Below.refl _ _).alloc (Nat.le_refl _) _
        have hcall := HP.out d (.agg #[.string d.name, .int .i64 d.v.ty, .int .i64 d.v.n, .string d.v.s]) (wr.alloc (.cells #[.string d.name, .int .i64 d.v.ty, .int .i64 d.v.n, .string d.v.s] 43)) (((Below.refl B w).grown hgr hB (fun k e => by injection e with e; omega)).alloc (by omega) _) ⟨rfl, HOK.out d (List.mem_of_getElem? hd)⟩
        have hOx := hO.below hbx
        have hgx : w.grownBy (wr.alloc (.cells #[.string d.name, .int .i64 d.v.ty, .int .i64 d.v.n, .string d.v.s] 43)) (some g0) := hgr.trans (grownBy_below hbx _)
        have HD := Lib.hid hd
        clear hd hdk hO hgr
        cases hpd : p d with
        | true =>
          rw [hpd] at hcall
          have HN := Lib.hid (HK.out.skip HD.out hpd)
          clear hpd hq
          go_wp2_with (go_at_fn g; refine hcall.mono ?_; rintro e w2 ⟨rfl, hb2⟩)
          have hO2 := hOx.below hb2
          have hg2 := hgx.trans (grownBy_below hb2 (some g0))
          clear hcall hb2 hOx hgx x0 x1 x2 z0 z1 z2
          go_roundw
          case rel => exact ⟨a, b + 1, dk, rfl, by go_num, by omega, by omega, hO2, hg2, HN⟩
          case measure => simp [intOf]; omega
        | false =>
          rw [hpd] at hcall
          have HN := Lib.hid (HK.out.keep HD.out hpd)
          clear hpd
          go_wp2_with (
            (go_at_fn g
             refine hcall.mono ?_
             rintro e w2 ⟨rfl, hb2⟩
             have hO2 := hOx.below hb2
             have hg2 := hgx.trans (grownBy_below hb2 (some g0))
             clear hOx hgx
             have y0 : w2.cell? ⟨g0, o0 + a * 4, none⟩ = some (.string q.name) := hO2.cell (j := a * 4 + 0) rfl (flat_get (j := 0) Prp.enc_len hq rfl)
             have y1 : w2.cell? ⟨g0, o0 + a * 4 + 1, none⟩ = some (.int .i64 q.v.ty) := hO2.cell (j := a * 4 + 1) rfl (flat_get (j := 1) Prp.enc_len hq rfl)
             have y2 : w2.cell? ⟨g0, o0 + a * 4 + 2, none⟩ = some (.int .i64 q.v.n) := hO2.cell (j := a * 4 + 2) rfl (flat_get (j := 2) Prp.enc_len hq rfl)
             have y3 : w2.cell? ⟨g0, o0 + a * 4 + 3, none⟩ = some (.string q.v.s) := hO2.cell (j := a * 4 + 3) rfl (flat_get (j := 3) Prp.enc_len hq rfl)
             have f0 : w2.frozen? ⟨g0, o0 + a * 4, none⟩ = false := hO2.frozen rfl _
             have f1 : w2.frozen? ⟨g0, o0 + a * 4 + 1, none⟩ = false := hO2.frozen rfl _
             have f2 : w2.frozen? ⟨g0, o0 + a * 4 + 2, none⟩ = false := hO2.frozen rfl _
             have f3 : w2.frozen? ⟨g0, o0 + a * 4 + 3, none⟩ = false := hO2.frozen rfl _
             have b0 := cell_below hb2 z0
             have b1 := cell_below hb2 z1
             have b2 := cell_below hb2 z2
             have b3 := cell_below hb2 z3
             have ho3 := ((((hO2.store (a * 4) (by omega) (.string d.name)).store (a * 4 + 1) (by omega) (.int .i64 d.v.ty)).store (a * 4 + 2) (by omega) (.int .i64 d.v.n)).store (a * 4 + 3) (by omega) (.string d.v.s))
             have HO3 : Hid (Own ((((w2.setCell ⟨g0, o0 + a * 4, none⟩ (.string d.name)).setCell ⟨g0, o0 + a * 4 + 1, none⟩ (.int .i64 d.v.ty)).setCell ⟨g0, o0 + a * 4 + 2, none⟩ (.int .i64 d.v.n)).setCell ⟨g0, o0 + a * 4 + 3, none⟩ (.string d.v.s)) B 43 4 (.slice (some ⟨g0, o0, none⟩) l.length c) l.length ((dk.set a d).flatMap Prp.enc)) := by
               rw [← flat_set Prp.enc_len dk a d (by omega)]; exact ho3
             have HG3 : Hid (w.grownBy ((((w2.setCell ⟨g0, o0 + a * 4, none⟩ (.string d.name)).setCell ⟨g0, o0 + a * 4 + 1, none⟩ (.int .i64 d.v.ty)).setCell ⟨g0, o0 + a * 4 + 2, none⟩ (.int .i64 d.v.n)).setCell ⟨g0, o0 + a * 4 + 3, none⟩ (.string d.v.s)) (some g0)) := ((((hg2.trans (grownBy_setCell_q _ ⟨g0, o0 + a * 4, none⟩ _)).trans (grownBy_setCell_q _ ⟨g0, o0 + a * 4 + 1, none⟩ _)).trans (grownBy_setCell_q _ ⟨g0, o0 + a * 4 + 2, none⟩ _)).trans (grownBy_setCell_q _ ⟨g0, o0 + a * 4 + 3, none⟩ _))
             clear ho3 hO2 hg2 z0 z1 z2 z3
             skip)
            )
          go_roundw
          case rel => exact ⟨a + 1, b + 1, dk.set a d, by go_num, by go_num, by omega, by omega, HO3.out, HG3.out, HN⟩
          case measure => simp [intOf]; omega
      · obtain rfl : b = l.length := by omega
        obtain ⟨hd1, hd2⟩ := HK.out.done
        obtain ⟨w9, hr9, ho9, hg9⟩ := hO.clear (P := Tryd.prog) 35 i0 (.agg #[.string .empty, .int .i64 0, .int .i64 0, .string .empty]) 4 Tryd.underlying35 ei ez rfl (by kernel_rfl) (by decide) (show a < l.length by omega)
        have HG9 := Lib.hid (hgr.trans hg9)
        have HO9 : Hid (Own w9 B 43 4 (.slice (some ⟨g0, o0, none⟩) a c) (l.filter fun x => !p x).length ((l.filter fun x => !p x).flatMap Prp.enc)) := by
          unfold Hid
          rw [hd2, ← hd1, ← flat_take Prp.enc_len dk a (by omega)]
          exact ho9
        have hca : ¬ c = a := by omega
        have hac : (a : Int) ≤ (c : Int) := by omega
        clear hd1 hd2 ho9 hg9 hO hgr
        go_wp2_with (at_builtin; refine wpList_clear_q _ rfl (.tmp 38) _ rfl _ rfl (hr9 _ _) ?_)
        go_ret
        exact ⟨_, rfl, HO9.out, HG9.out, rfl⟩
end Go.Proofs.YtdfeloeainabjaaDoor
