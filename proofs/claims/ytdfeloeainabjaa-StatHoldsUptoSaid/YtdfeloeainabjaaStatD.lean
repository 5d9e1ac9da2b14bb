/- Contract: StatHolds answers true. -/
import Derived.Test.YtdfeloeainabjaaStatP
import Derived.Test.YtdfeloeainabjaaStatC
import Derived.Test.YtdfeloeainabjaaQm
namespace Go.Proofs.Ytdfeloeainabjaa
open Go.RowKit

/-! ### The small graph in memory -/
theorem oneR_at (w : World) (b1 b2 : Nat)
    (h1 : ∀ i, w.cell? ⟨b1, i, none⟩ = #[Value.int .i64 1, .string ⟨#[97]⟩, .slice none 0 0, .int .i64 2, .string ⟨#[97]⟩, .slice none 0 0, .int .i64 3, .string ⟨#[97]⟩, .slice none 0 0][i]?)
    (h2 : ∀ i, w.cell? ⟨b2, i, none⟩ = #[Value.string ⟨#[112]⟩, .int .i64 3, .int .i64 1][i]?) :
    GrfR w (.slice (some ⟨b1, 0, none⟩) 3 3) (.slice (some ⟨b2, 0, none⟩) 1 1) oneG := by
  have hn : ∀ (i : Nat) (n : Int), I64 n → 3 * i + 2 < 9 →
      #[Value.int .i64 1, .string ⟨#[97]⟩, .slice none 0 0, .int .i64 2, .string ⟨#[97]⟩, .slice none 0 0, .int .i64 3, .string ⟨#[97]⟩, .slice none 0 0][3 * i]? = some (.int .i64 n) →
      ∃ b o cs, (some ⟨b1, 0, none⟩ : Option Addr) = some ⟨b, o, none⟩ ∧ nodL.cells w ⟨n, ⟨#[97]⟩, []⟩ cs ∧ ∀ j u, cs[j]? = some u → w.cell? ⟨b, o + (i * nodL.sz + j), none⟩ = some u := by
    intro i n hn hi he
    refine ⟨b1, 0, [.int .i64 n, .string ⟨#[97]⟩, .slice none 0 0], rfl, ⟨_, rfl, hn, (by show 1 ≤ 1048576; omega), Sl.nil 0 (by unfold maxLen; omega) none⟩, fun j u hj => ?_⟩
    rw [h1]
    obtain rfl | rfl | rfl : i = 0 ∨ i = 1 ∨ i = 2 := by omega
    all_goals
      match j, hj with
      | 0, hj => rw [← hj]; exact he
      | 1, hj => exact hj
      | 2, hj => exact hj
  refine ⟨⟨_, 3, rfl, (by decide), (by unfold maxLen; omega), fun i d hi => ?_⟩, ⟨_, 1, rfl, (by decide), (by unfold maxLen; omega), fun i d hi => ?_⟩⟩
  · match i, hi with
    | 0, hi => injection hi with e; subst e; exact hn 0 1 (by unfold I64; omega) (by omega) rfl
    | 1, hi => injection hi with e; subst e; exact hn 1 2 (by unfold I64; omega) (by omega) rfl
    | 2, hi => injection hi with e; subst e; exact hn 2 3 (by unfold I64; omega) (by omega) rfl
  · match i, hi with
    | 0, hi =>
      injection hi with e; subst e
      refine ⟨b2, 0, [.string ⟨#[112]⟩, .int .i64 3, .int .i64 1], rfl, ⟨rfl, (by show 1 ≤ 1048576; omega), (by show I64 (3 : Int); unfold I64; omega), (by show I64 (1 : Int); unfold I64; omega)⟩, fun j u hj => ?_⟩
      rw [h2]
      match j, hj with
      | 0, hj => exact hj
      | 1, hj => exact hj
      | 2, hj => exact hj
theorem oneR (w : World) (x y : Obj) (t1 t2 : TypeId) :
    GrfR ((((w.alloc x).alloc (.cells #[Value.int .i64 1, .string ⟨#[97]⟩, .slice none 0 0, .int .i64 2, .string ⟨#[97]⟩, .slice none 0 0, .int .i64 3, .string ⟨#[97]⟩, .slice none 0 0] t1)).alloc (.cells #[Value.string ⟨#[112]⟩, .int .i64 3, .int .i64 1] t2)).alloc y)
      (.slice (some ⟨w.heap.size + 1, 0, none⟩) 3 3) (.slice (some ⟨w.heap.size + 1 + 1, 0, none⟩) 1 1) oneG := by
  refine oneR_at _ _ _ (fun i => ?_) (fun i => ?_)
  · rw [(Below.refl _ _ |>.alloc (Nat.le_refl _) _ : Below _ _ _).cell (by simp), (Below.refl _ _ |>.alloc (Nat.le_refl _) _ : Below _ _ _).cell (by simp), World.cell?_alloc_at _ _ _ _ (by simp)]
  · rw [(Below.refl _ _ |>.alloc (Nat.le_refl _) _ : Below _ _ _).cell (by simp), World.cell?_alloc_at _ _ _ _ (by simp)]
theorem one_below (w : World) (x y z u : Obj) : Below (w.heap.size + 1) (w.alloc x) ((((w.alloc x).alloc y).alloc z).alloc u) :=
  (((Below.refl _ _).alloc (by simp) _).alloc (by simp) _).alloc (by simp) _

set_option maxRecDepth 100000 in
set_option maxHeartbeats 8000000 in
theorem statHolds_any (g : Grf) (vn vt : Value) (w : World) (hg : GrfR w vn vt g) :
    Calls Try.prog 4 #[.agg #[vn, vt]] w fun e w' => e = .returned (.bool true) ∧ Below w.heap.size w w' := by
  obtain ⟨A, c, rfl, _, _⟩ := hg.1.form
  obtain ⟨A', c', rfl, _, _⟩ := hg.2.form
  obtain ⟨q0, q1⟩ := cell_box2 w (.slice A g.nodes.length c) (.slice A' g.ties.length c') 29
  have hb0 : Below w.heap.size w (w.alloc (.cells #[.slice A g.nodes.length c, .slice A' g.ties.length c'] 29)) := (Below.refl _ _).alloc (Nat.le_refl _) _
  have HR := oneR w (.cells #[.slice A g.nodes.length c, .slice A' g.ties.length c'] 29) (.cells #[.slice (some ⟨w.heap.size + 1, 0, none⟩) 3 3, .slice (some ⟨w.heap.size + 1 + 1, 0, none⟩) 1 1] 29) 33 35
  go_enter Try.func4, Try.ntmps4
  go_wp2_with fail
  refine (parts_any oneG _ _ _ HR).mono ?_
  rintro e w1 ⟨fv, rfl, hsl, hb1⟩
  have e0 : errV (grfE oneG) = .nilIface := errV_zero oneG_ok
  have e1 : partsL oneG = [[1, 3], [2]] := by unfold partsL; rw [if_pos oneG_ok, oneG_parts]
  rw [e0]
  rw [e1] at hsl
  have hbw : Below w.heap.size w w1 := ((((hb0.alloc (by simp) _).alloc (by simp; omega) _).alloc (by simp; omega) _)).trans (hb1.mono (by simp; omega))
  have hws : w.heap.size < w1.heap.size := by have := hb1.size; simp at this; omega
  have p0 := (hb1.cell (p := ⟨w.heap.size, 0, none⟩) (by simp; omega)).trans (((one_below w _ _ _ _).cell (p := ⟨w.heap.size, 0, none⟩) (by simp)).trans q0)
  have p1 := (hb1.cell (p := ⟨w.heap.size, 1, none⟩) (by simp; omega)).trans (((one_below w _ _ _ _).cell (p := ⟨w.heap.size, 1, none⟩) (by simp)).trans q1)
  obtain ⟨Af, cf, rfl, _, _⟩ := hsl.form
  obtain ⟨bf, of, rfl, hall⟩ := sl_all hsl (by decide)
  obtain ⟨u0, hu0, x0⟩ := hall 0 _ rfl
  obtain ⟨Au, cu, rfl, _, _⟩ := hu0.form
  obtain ⟨bu, ou, rfl, _, x1⟩ := int_at hu0 (k := 1) rfl
  clear hall hu0 hsl e0 e1 hb1 HR q0 q1
  simp only [Nat.add_zero] at x0
  go_wp2_with fail
  refine (parts_any g _ _ _ (hg.below hbw)).mono ?_
  rintro e w2 ⟨pv, rfl, hsl, hb2⟩
  have hbw2 := hbw.trans (hb2.mono hbw.size)
  have hws2 : w.heap.size < w2.heap.size := by have := hb2.size; omega
  have r0 := cell_below hb2 p0
  have r1 := cell_below hb2 p1
  clear hb2 p0 p1 x0 x1 hbw hws
  by_cases h0 : grfE g = 0
  · obtain ⟨hl, hlt, hch, hok⟩ := grf_ok h0
    have e1 : partsL g = partsI g := by unfold partsL; rw [if_pos h0]
    have hE : errV (grfE g) = .nilIface := errV_zero h0
    rw [hE]
    rw [e1] at hsl
    have HS := Lib.hid (parts_sum hch)
    have HP : Hid (∀ l ∈ partsI g, ∃ m rest, l = idAt g.nodes m :: rest ∧ m < g.nodes.length ∧ (farE g (idAt g.nodes m) = 0 ∧ farL g (idAt g.nodes m) = farI g m) ∧ ∀ k, k < g.nodes.length → l.any (fun y => y == idAt g.nodes k) = decide (0 ≤ (farI g m).getD k 0)) := by
      intro l hl
      obtain ⟨m, rest, h1, h2, h3⟩ := parts_each hch hl
      exact ⟨m, rest, h1, h2, far_of_id h0 h2, h3⟩
    generalize partsI g = ls at hsl HS HP
    clear e1 hE
    obtain ⟨Ap, cp, rfl, hp1, hp2⟩ := hsl.form
    have hlm : (ls.length : Int) ≤ 9223372036854775807 := by unfold maxLen at hp2; omega
    go_wp2_with fail
    go_loopw [8, 9] (fun n i wr => ∃ (k N : Nat), k ≤ ls.length ∧ i = .int .i64 k ∧ n = .int .i64 N ∧ Below w2.heap.size w2 wr ∧ Hid (N + ((ls.drop k).map List.length).sum = g.nodes.length)) (fun _ i _ => ls.length - (intOf i).toNat)
    case atStart => exact ⟨0, 0, Nat.zero_le _, rfl, rfl, Below.refl _ _, by unfold Hid; rw [List.drop_zero, HS.out]; omega⟩
    case round =>
      obtain ⟨k, N, hk, rfl, rfl, hb, HN⟩ := hrel
      have hbw := hbw2.trans (hb.mono hbw2.size)
      have s0 := cell_below hb r0
      have s1 := cell_below hb r1
      have hwr : w.heap.size < wr.heap.size := by have := hb.size; omega
      by_cases hk2 : k < ls.length
      · obtain ⟨l, hl2⟩ : ∃ l, ls[k]? = some l := ⟨_, List.getElem?_eq_getElem hk2⟩
        obtain ⟨bp, op, rfl, u, hu, x0⟩ := sl_at (hsl.below hb) hl2
        obtain ⟨Au, cu, rfl, _, _⟩ := hu.form
        obtain ⟨m, rest, hm1, hm2, ⟨hm3, hm4⟩, hm5⟩ := HP.out l (List.mem_of_getElem? hl2)
        have hl0 : l[0]? = some (idAt g.nodes m) := by rw [hm1]; rfl
        obtain ⟨bu, ou, rfl, _, x1⟩ := int_at hu hl0
        have HN2 : Hid ((N + l.length) + ((ls.drop (k + 1)).map List.length).sum = g.nodes.length) := by
          have := HN.out
          rw [drop_cons hl2, List.map_cons, List.sum_cons] at this
          unfold Hid; omega
        have hlp : 0 < l.length := len_pos hl0
        have hNl : N + l.length ≤ 60 := by have := HN2.out; omega
        have hlp' : (0 : Int) < (l.length : Int) := by omega
        have hNl' : (N : Int) + (l.length : Int) ≤ 60 := by omega
        have hk2' : (k : Int) < (ls.length : Int) := by omega
        have hd0 : decide ((l.length : Int) = 0) = false := decide_eq_false (by omega)
        have HM : Hid ((farE g (idAt g.nodes m) = 0 ∧ farL g (idAt g.nodes m) = farI g m) ∧ ∀ k, k < g.nodes.length → l.any (fun y => y == idAt g.nodes k) = decide (0 ≤ (farI g m).getD k 0)) := ⟨⟨hm3, hm4⟩, hm5⟩
        simp only [Nat.add_zero] at x1
        have HL2 := Lib.hid hl2
        clear hm1 hm3 hm4 hm5 hl2 HN hl0
        go_wp2_with fail
        refine wp_mid_k 7 _ rfl rfl (by kernel_rfl) (by kernel_rfl) ?_
        simp only [List.take_succ_cons, List.take_zero, List.drop_succ_cons, List.drop_zero]
        repeat (go_big_quiet_step (fail))
        refine wpQuiet_nil ?_
        intro _ hw'
        obtain ⟨nq, hw''⟩ := hw'
        subst hw''
        intro K hK
        go_wp2_with fail
        refine (farTop_any g _ _ _ (hg.below (below_drewN hbw _)) (idAt g.nodes m)).mono ?_
        rintro e w3 ⟨v3, rfl, hs3, hb3⟩
        have e3 : errV (farE g (idAt g.nodes m)) = .nilIface := errV_zero HM.out.1.1
        rw [e3]
        rw [HM.out.1.2] at hs3
        have HL := Lib.hid (farI_len (g := g) hm2)
        have hb4 : Below w2.heap.size w2 w3 := (below_drewN hb nq).trans (hb3.mono (by have := hb.size; simpa [World.drewN] using this))
        have HM2 : Hid (∀ k, k < g.nodes.length → l.any (fun y => y == idAt g.nodes k) = decide (0 ≤ (farI g m).getD k 0)) := HM.out.2
        have HX := Lib.hid hs3
        obtain ⟨A3, c3, rfl, _, _⟩ := hs3.form
        rw [HL.out] at HX ⊢
        clear hs3 HM e3 hb3 hb hbw s0 s1 hwr x0 x1 hu
        go_wp2_with fail
        repeat (go_big_quiet_step (fail))
        refine wpQuiet_nil ?_
        intro _ hw'
        obtain ⟨nq2, hw''⟩ := hw'
        subst hw''
        have hb5 : Below w2.heap.size w2 (w3.drewN nq2) := below_drewN hb4 _
        have hbw5 := hbw2.trans (hb5.mono hbw2.size)
        have s0 := cell_below hb5 r0
        have s1 := cell_below hb5 r1
        have hwr : w.heap.size < (w3.drewN nq2).heap.size := by have := hb5.size; omega
        have hX := Lib.hid (HX.out.below (below_drewN (Below.refl _ _) nq2))
        clear HX hb4
        generalize w3.drewN nq2 = w4 at hb5 hbw5 s0 s1 hwr hX ⊢
        go_wp2_with fail
        go_loopw [12] (fun i w5 => ∃ k2 : Nat, k2 ≤ g.nodes.length ∧ i = .int .i64 k2 ∧ Below w4.heap.size w4 w5) (fun i _ => g.nodes.length - (intOf i).toNat)
        case atStart => exact ⟨0, Nat.zero_le _, rfl, Below.refl _ _⟩
        case round =>
          obtain ⟨k2, hk3, rfl, hb6⟩ := hrel
          have hb7 : Below w2.heap.size w2 wr := hb5.trans (hb6.mono hb5.size)
          have hbw7 := hbw2.trans (hb7.mono hbw2.size)
          have t0 := cell_below hb6 s0
          have t1 := cell_below hb6 s1
          have hwr5 : w.heap.size < wr.heap.size := by have := hb6.size; omega
          by_cases hk4 : k2 < g.nodes.length
          · obtain ⟨d2, hd2⟩ : ∃ d, g.nodes[k2]? = some d := ⟨_, List.getElem?_eq_getElem hk4⟩
            obtain ⟨bn, on, rfl, un, hid, hkd, hpr, y0, y1, y2⟩ := nod_at (hg.1.below hbw7) hd2
            obtain ⟨b', o', hA', u', hu', z0⟩ := sl_at (hsl.below hb7) HL2.out
            injection hA' with e5
            injection e5 with e6 e7
            subst e6; subst e7
            obtain ⟨y, hy⟩ : ∃ y, (farI g m).getD k2 0 = y := ⟨_, rfl⟩
            obtain ⟨b3, o3, rfl, _, z1⟩ := int_at (hX.out.below hb6) (k := k2) (d := y) (by rw [← hy, List.getD_eq_getElem?_getD, List.getElem?_eq_getElem (by rw [HL.out]; exact hk4)]; rfl)
            have hany : (l.any fun x => x == d2.id) = decide (0 ≤ y) := by
              have := HM2.out k2 hk4
              rw [hy] at this
              unfold idAt at this
              rw [hd2] at this
              exact this
            have hin : ∀ n, Calls Try.prog 14 #[u', .int .i64 d2.id] (wr.drewN n) fun e w' => e = .returned (.bool (decide (0 ≤ y))) ∧ w' = wr.drewN n := fun n => by
              have := in_any l d2.id u' (wr.drewN n) (hu'.below (below_drewN (Below.refl _ _) n))
              rw [hany] at this
              exact this.mono fun _ _ h => ⟨h.1, h.2.symm⟩
            obtain ⟨Au, cu, rfl, _, _⟩ := hu'.form
            have hk4' : (k2 : Int) < (g.nodes.length : Int) := by omega
            clear hu' hany hd2 hpr hkd hy
            by_cases hy0 : 0 ≤ y
            · have hy1 : decide (0 ≤ y) = true := by simpa using hy0
              rw [hy1] at hin
              go_wp2_with fail
              go_quiet ((go_at_call 14; exact Calls.quiet_of_same (hin _)))
              go_wp2_with fail
              go_roundw
              case rel => exact ⟨k2 + 1, by omega, by go_num, below_drewN hb6 _⟩
              case measure => simp [intOf]; omega
            · have hy1 : decide (0 ≤ y) = false := by simpa using hy0
              have hy2 : y < 0 := by omega
              rw [hy1] at hin
              go_wp2_with fail
              go_quiet ((go_at_call 14; exact Calls.quiet_of_same (hin _)))
              go_wp2_with fail
              go_roundw
              case rel => exact ⟨k2 + 1, by omega, by go_num, below_drewN hb6 _⟩
              case measure => simp [intOf]; omega
          · obtain rfl : k2 = g.nodes.length := by omega
            go_wp2_with fail
            go_roundw
            case rel => exact ⟨k + 1, N + l.length, by omega, by go_num, by go_num, hb7, HN2⟩
            case measure => simp [intOf]; omega
      · obtain rfl : k = ls.length := by omega
        have hN : N = g.nodes.length := by
          have := HN.out
          rw [List.drop_length] at this
          simpa using this
        subst hN
        go_wp2_with fail
        go_ret
        exact ⟨rfl, hbw⟩
  · have hE : errV (grfE g) = .iface 23 (.int .i64 (grfE g)) := errV_some h0
    have e1 : partsL g = [] := by unfold partsL; rw [if_neg h0]
    rw [hE]
    rw [e1] at hsl
    obtain ⟨Ap, cp, rfl, _, _⟩ := hsl.form
    have HE := Lib.hid hE
    clear hE
    go_wp2_with fail
    refine (grfCheck_any g _ _ _ (hg.below hbw2)).mono ?_
    rintro e w3 ⟨rfl, hb3⟩
    rw [HE.out]
    go_wp2_with fail
    go_ret
    exact ⟨rfl, hbw2.trans (hb3.mono hbw2.size)⟩
end Go.Proofs.Ytdfeloeainabjaa
