/- Contract: slices.DeleteFunc at []Tie. -/
import Derived.Test.YtdfeloeainabjaaDelA
import Derived.Test.YtdfeloeainabjaaSame
import Derived.Test.YtdfeloeainabjaaGrC
namespace Go.Proofs.Ytdfeloeainabjaa
open Go Go.RowKit




def tieAg (_ : World) (d : Tie) (u : Value) : Prop := u = .agg #[.string d.bond, .int .i64 d.src, .int .i64 d.dst] ∧ d.ok
set_option maxHeartbeats 400000 in
theorem idx_ties (g : Nat) (caps : Array Value) (eg : ∀ args w, (callFunc g args).run Try.prog w = .ok (.enter g args) w) (p : Tie → Bool) (l : List (Tie)) (v : Value) (w : World) (hv : Sl tieL w v l)
    (hp : PredB Try.prog g caps tieAg p w) :
    Calls Try.prog 146 #[v, .func (.func g) #[] caps] w fun e w' => e = .returned (.int .i64 (idxI p l)) ∧ Below w.heap.size w w' := by
  obtain ⟨A, c, rfl, hlc, hcm⟩ := hv.form
  unfold maxLen at hcm
  go_enter Try.func146, Try.ntmps146
  go_wp2_with fail
  go_loopw [8] (fun i wr => ∃ k : Nat, k ≤ l.length ∧ i = .int .i64 k ∧ Below w.heap.size w wr ∧ Hid (∀ j x, j < k → l[j]? = some x → p x = false)) (fun i _ => l.length - (intOf i).toNat)
  case atStart => exact ⟨0, Nat.zero_le _, rfl, Below.refl _ _, fun j x hj => absurd hj (Nat.not_lt_zero _)⟩
  case round =>
    obtain ⟨k, hk, rfl, hb, HA⟩ := hrel
    by_cases hlt : k < l.length
    · obtain ⟨d, hd⟩ : ∃ d, l[k]? = some d := ⟨_, List.getElem?_eq_getElem hlt⟩
      obtain ⟨b, o, rfl, hsm, x0, x1, x2⟩ := tie_at (hv.below hb) hd
      have hcall := hp d _ wr hb ⟨rfl, hsm⟩
      have HD : Hid (l[k]? = some d) := hd
      clear hd hp hv
      cases hq : p d with
      | true =>
        rw [hq] at hcall
        have HQ : Hid (p d = true) := hq
        clear hq
        go_wp2_with (go_at_fn g; refine hcall.mono ?_; rintro e w' ⟨rfl, hb2⟩)
        go_ret
        exact ⟨ret_int (idxI_hit HA.out HD.out HQ.out).symm, hb.trans (hb2.mono hb.size)⟩
      | false =>
        rw [hq] at hcall
        have HQ : Hid (p d = false) := hq
        clear hq
        go_wp2_with (go_at_fn g; refine hcall.mono ?_; rintro e w' ⟨rfl, hb2⟩)
        go_roundw
        case rel => exact ⟨k + 1, by omega, by go_num, hb.trans (hb2.mono hb.size), miss_step HA.out HD.out HQ.out⟩
        case measure => simp [intOf]; omega
    · have hkl : k = l.length := by omega
      subst hkl
      clear hp hv
      go_wp2_with fail
      go_ret
      exact ⟨ret_int (idxI_miss HA.out).symm, hb⟩
theorem del_ties_info : (Try.prog.info? 35).map (fun i => (i.zero, i.size, i.bytes)) = some (some (.agg #[.string .empty, .int .i64 0, .int .i64 0]), 3, 32) := by kernel_rfl
set_option maxRecDepth 100000 in
set_option maxHeartbeats 4000000 in
theorem del_ties_g (g : Nat) (caps : Array Value) (eg : ∀ args w, (callFunc g args).run Try.prog w = .ok (.enter g args) w) (p : Tie → Bool) (l : List Tie) (v : Value) (B : Nat) (w : World) (hB : B ≤ w.heap.size)
    (hown : Own w B 35 3 v l.length (l.flatMap Tie.enc)) (hok : ∀ x ∈ l, x.ok) (hl : l.length ≤ 1000) (hp : PredG Try.prog g caps (fun d u => u = (.agg #[.string d.bond, .int .i64 d.src, .int .i64 d.dst]) ∧ d.ok) p v.ownBlock w) :
    Calls Try.prog 118 #[v, .func (.func g) #[] caps] w fun e w' => ∃ u, e = .returned u ∧ Own w' B 35 3 u (l.filter fun x => !p x).length ((l.filter fun x => !p x).flatMap Tie.enc) ∧ w.grownBy w' v.ownBlock ∧ u.ownBlock = v.ownBlock := by
  obtain ⟨i0, ei, ez, ez1, ez2⟩ := info_parts del_ties_info
  have hidx := idx_ties g caps eg p l _ w (hown.ties hok) (fun x u wx hb hu => hp x u wx (grownBy_below hb _) hu)
  rcases idxI_cases p l with ⟨h1, h2⟩ | ⟨k0, d0, h1, h2, h3⟩
  · rw [h1] at hidx
    obtain ⟨A, c, rfl, hlc, hcm⟩ := hown.form
    have H2 := Lib.hid h2
    have HO := Lib.hid hown
    clear h1 h2 hown hp hok
    go_enter Try.func118, Try.ntmps118
    go_wp2_with (go_at_call 146; refine hidx.mono ?_; rintro e w1 ⟨rfl, hb1⟩)
    go_ret
    exact ⟨_, rfl, by rw [H2.out]; exact HO.out.below hb1, grownBy_below hb1 _, rfl⟩
  · rw [h1] at hidx
    obtain ⟨g0, o0, c, rfl, hBg, hgl⟩ := hown.addr (len_pos h2)
    obtain ⟨_, c', hv, hlc, hcm⟩ := hown.form
    injection hv with hvA hvL hvC
    subst hvC; subst hvA
    clear hvL
    unfold maxLen at hcm
    have HK0 := Lib.hid h3
    have hk0l := (List.getElem?_eq_some_iff.1 h2).1
    have HP := Lib.hid hp
    have HOK := Lib.hid hok
    have HO := Lib.hid hown
    have hkl : (k0 : Int) + 1 ≤ (l.length : Int) := by omega
    have hl2 : (l.length : Int) ≤ 1000 := by omega
    have hne : ((k0 : Int) == -1) = false := beq_eq_false_iff_ne.2 (by omega)
    have hown' : Own w B 35 3 (.slice (some ⟨g0, o0, none⟩) l.length c) l.length (l.flatMap Tie.enc) := hown
    clear h1 h2 h3 hown hp hok
    go_enter Try.func118, Try.ntmps118
    go_wp2_with (go_at_call 146; refine hidx.mono ?_; rintro e w1 ⟨rfl, hb1⟩)
    have ho1 := hown'.below hb1
    have hgb1 : w.grownBy w1 (some g0) := grownBy_below hb1 _
    clear hidx hown'
    go_loopw [5, 6] (fun i j wr => ∃ (a b : Nat) (dk : List Tie), i = .int .i64 a ∧ j = .int .i64 b ∧ a < b ∧ b ≤ l.length ∧ Own wr B 35 3 (.slice (some ⟨g0, o0, none⟩) l.length c) l.length (dk.flatMap Tie.enc) ∧ w.grownBy wr (some g0) ∧ Hid (Kept p l dk b a)) (fun _ j _ => l.length - (intOf j).toNat)
    case atStart => exact ⟨k0, k0 + 1, l, rfl, by go_num, by omega, by omega, ho1, hgb1, HK0.out⟩
    case round =>
      clear ho1 hgb1
      obtain ⟨a, b, dk, rfl, rfl, hab, hbl, hO, hgr, HK⟩ := hrel
      have hdl := HK.out.len
      have hal : (a : Int) < (l.length : Int) := by omega
      have hgrs := hgr.size
      by_cases hlt : b < l.length
      · obtain ⟨d, hd⟩ : ∃ d, l[b]? = some d := ⟨_, List.getElem?_eq_getElem hlt⟩
        obtain ⟨q, hq⟩ : ∃ q, dk[a]? = some q := ⟨_, List.getElem?_eq_getElem (by omega)⟩
        have hdk : dk[b]? = some d := (HK.out.at hlt).trans hd
        have hlt' : (b : Int) < (l.length : Int) := by omega
        have x0 : wr.cell? ⟨g0, o0 + b * 3, none⟩ = some (.string d.bond) := hO.cell (j := b * 3 + 0) rfl (flat_get (j := 0) Tie.enc_len hdk rfl)
        have x1 : wr.cell? ⟨g0, o0 + b * 3 + 1, none⟩ = some (.int .i64 d.src) := hO.cell (j := b * 3 + 1) rfl (flat_get (j := 1) Tie.enc_len hdk rfl)
        have x2 : wr.cell? ⟨g0, o0 + b * 3 + 2, none⟩ = some (.int .i64 d.dst) := hO.cell (j := b * 3 + 2) rfl (flat_get (j := 2) Tie.enc_len hdk rfl)
        obtain ⟨z0, z1, z2⟩ := cell_box3 wr (.string d.bond) (.int .i64 d.src) (.int .i64 d.dst) 35
        have hbx : Below wr.heap.size wr (wr.alloc (.cells #[.string d.bond, .int .i64 d.src, .int .i64 d.dst] 35)) := (Below.refl _ _).alloc (Nat.le_refl _) _
        have hOx := hO.below hbx
        have hgx : w.grownBy (wr.alloc (.cells #[.string d.bond, .int .i64 d.src, .int .i64 d.dst] 35)) (some g0) := hgr.trans (grownBy_below hbx _)
        have hcall := HP.out d (.agg #[.string d.bond, .int .i64 d.src, .int .i64 d.dst]) (wr.alloc (.cells #[.string d.bond, .int .i64 d.src, .int .i64 d.dst] 35)) hgx ⟨rfl, HOK.out d (List.mem_of_getElem? hd)⟩
        have HD := Lib.hid hd
        clear hd hdk hO hgr
        cases hpd : p d with
        | true =>
          rw [hpd] at hcall
          have HN := Lib.hid (HK.out.skip HD.out hpd)
          clear hpd hq
          go_wp2_with (go_at_fn g; refine hcall.mono ?_; rintro e w2 ⟨rfl, hb2⟩)
          have hO2 := hOx.below hb2
          have hg2 := hgx.trans (grownBy_below hb2 (some g0))
          clear hcall hb2 hOx hgx x0 x1 x2 z0 z1 z2
          go_roundw
          case rel => exact ⟨a, b + 1, dk, rfl, by go_num, by omega, by omega, hO2, hg2, HN⟩
          case measure => simp [intOf]; omega
        | false =>
          rw [hpd] at hcall
          have HN := Lib.hid (HK.out.keep HD.out hpd)
          clear hpd
          go_wp2_with (
            (go_at_fn g
             refine hcall.mono ?_
             rintro e w2 ⟨rfl, hb2⟩
             have hO2 := hOx.below hb2
             have hg2 := hgx.trans (grownBy_below hb2 (some g0))
             clear hOx hgx
             have y0 : w2.cell? ⟨g0, o0 + a * 3, none⟩ = some (.string q.bond) := hO2.cell (j := a * 3 + 0) rfl (flat_get (j := 0) Tie.enc_len hq rfl)
             have y1 : w2.cell? ⟨g0, o0 + a * 3 + 1, none⟩ = some (.int .i64 q.src) := hO2.cell (j := a * 3 + 1) rfl (flat_get (j := 1) Tie.enc_len hq rfl)
             have y2 : w2.cell? ⟨g0, o0 + a * 3 + 2, none⟩ = some (.int .i64 q.dst) := hO2.cell (j := a * 3 + 2) rfl (flat_get (j := 2) Tie.enc_len hq rfl)
             have f0 : w2.frozen? ⟨g0, o0 + a * 3, none⟩ = false := hO2.frozen rfl _
             have f1 : w2.frozen? ⟨g0, o0 + a * 3 + 1, none⟩ = false := hO2.frozen rfl _
             have f2 : w2.frozen? ⟨g0, o0 + a * 3 + 2, none⟩ = false := hO2.frozen rfl _
             have b0 := cell_below hb2 z0
             have b1 := cell_below hb2 z1
             have b2 := cell_below hb2 z2
             have ho3 := (((hO2.store (a * 3) (by omega) (.string d.bond)).store (a * 3 + 1) (by omega) (.int .i64 d.src)).store (a * 3 + 2) (by omega) (.int .i64 d.dst))
             have HO3 : Hid (Own (((w2.setCell ⟨g0, o0 + a * 3, none⟩ (.string d.bond)).setCell ⟨g0, o0 + a * 3 + 1, none⟩ (.int .i64 d.src)).setCell ⟨g0, o0 + a * 3 + 2, none⟩ (.int .i64 d.dst)) B 35 3 (.slice (some ⟨g0, o0, none⟩) l.length c) l.length ((dk.set a d).flatMap Tie.enc)) := by
               rw [← flat_set Tie.enc_len dk a d (by omega)]; exact ho3
             have HG3 : Hid (w.grownBy (((w2.setCell ⟨g0, o0 + a * 3, none⟩ (.string d.bond)).setCell ⟨g0, o0 + a * 3 + 1, none⟩ (.int .i64 d.src)).setCell ⟨g0, o0 + a * 3 + 2, none⟩ (.int .i64 d.dst)) (some g0)) := (((hg2.trans (grownBy_setCell_q _ ⟨g0, o0 + a * 3, none⟩ _)).trans (grownBy_setCell_q _ ⟨g0, o0 + a * 3 + 1, none⟩ _)).trans (grownBy_setCell_q _ ⟨g0, o0 + a * 3 + 2, none⟩ _))
             clear ho3 hO2 hg2 z0 z1 z2
             skip)
            )
          go_roundw
          case rel => exact ⟨a + 1, b + 1, dk.set a d, by go_num, by go_num, by omega, by omega, HO3.out, HG3.out, HN⟩
          case measure => simp [intOf]; omega
      · obtain rfl : b = l.length := by omega
        obtain ⟨hd1, hd2⟩ := HK.out.done
        obtain ⟨w9, hr9, ho9, hg9⟩ := hO.clear (P := Try.prog) 27 i0 (.agg #[.string .empty, .int .i64 0, .int .i64 0]) 3 Try.underlying27 ei ez rfl (by kernel_rfl) (by decide) (show a < l.length by omega)
        have HG9 := Lib.hid (hgr.trans hg9)
        have HO9 : Hid (Own w9 B 35 3 (.slice (some ⟨g0, o0, none⟩) a c) (l.filter fun x => !p x).length ((l.filter fun x => !p x).flatMap Tie.enc)) := by
          unfold Hid
          rw [hd2, ← hd1, ← flat_take Tie.enc_len dk a (by omega)]
          exact ho9
        have hca : ¬ c = a := by omega
        have hac : (a : Int) ≤ (c : Int) := by omega
        clear hd1 hd2 ho9 hg9 hO hgr
        go_wp2_with (at_builtin; refine wpList_clear_q _ rfl (.tmp 38) _ rfl _ rfl (hr9 _ _) ?_)
        go_ret
        exact ⟨_, rfl, HO9.out, HG9.out, rfl⟩
theorem del_ties (g : Nat) (caps : Array Value) (eg : ∀ args w, (callFunc g args).run Try.prog w = .ok (.enter g args) w) (p : Tie → Bool) (l : List Tie) (v : Value) (B : Nat) (w : World) (hB : B ≤ w.heap.size)
    (hown : Own w B 35 3 v l.length (l.flatMap Tie.enc)) (hok : ∀ x ∈ l, x.ok) (hl : l.length ≤ 1000) (hp : PredO Try.prog g caps (fun d u => u = (.agg #[.string d.bond, .int .i64 d.src, .int .i64 d.dst]) ∧ d.ok) p B w) :
    Calls Try.prog 118 #[v, .func (.func g) #[] caps] w fun e w' => ∃ u, e = .returned u ∧ Own w' B 35 3 u (l.filter fun x => !p x).length ((l.filter fun x => !p x).flatMap Tie.enc) ∧ w.grownBy w' v.ownBlock ∧ u.ownBlock = v.ownBlock :=
  del_ties_g g caps eg p l v B w hB hown hok hl (fun x u wx hgw hu => hp x u wx ((Below.refl B w).grown hgw hB (fun k e => (hown.lt k e).1)) hu)
end Go.Proofs.Ytdfeloeainabjaa
