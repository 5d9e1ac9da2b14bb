/- Contract: slices.BinarySearchFunc at ties by graph.Order. -/
import Derived.Test.YtdfeloeainabjaaTieP
import Derived.Test.YtdfeloeainabjaaDelT
import Derived.Deep.RegionHeld3
namespace Go.Proofs.Ytdfeloeainabjaa
open Go Go.RowKit


def tieAgg (t : Tie) : Value := .agg #[.string t.bond, .int .i64 t.src, .int .i64 t.dst]
theorem order_g (args : Array Value) (w : World) : (callFunc 38 args).run Try.prog w = .ok (.enter 38 args) w := by kernel_rfl
set_option maxHeartbeats 4000000 in
theorem tfind_any (l : List Tie) (t : Tie) (v : Value) (w : World) (hv : Sl tieL w v l) (hch : chain tieLt l = true) (hlen : l.length ≤ 1000) :
    Calls Try.prog 121 #[v, tieAgg t, .func (.func 38) #[] #[]] w fun e w' => e = .returned (.tuple #[.int .i64 (tpos l t), .bool (thas l t)]) ∧ Below w.heap.size w w' := by
  obtain ⟨A, cp, rfl, hlc, hcm⟩ := hv.form
  have hpos : tpos l t ≤ l.length := lowI_le _ _
  have P1 : Hid (∀ i d, i < tpos l t → l[i]? = some d → tieO d t < 0) := fun i d h hi => low_lt (c := tieC t) h hi
  have P2 : Hid (∀ i d, tpos l t ≤ i → l[i]? = some d → 0 ≤ tieO d t) := fun i d h hi => low_ge (c := tieC t) hch (tieC_mono t) h hi
  have HT : Hid (thas l t = eqAt (tieC t) l (tpos l t)) := rfl
  generalize tpos l t = pos at *
  have hb0 : Below w.heap.size w (w.alloc (.cells #[.string t.bond, .int .i64 t.src, .int .i64 t.dst] 35)) := (Below.refl _ _).alloc (Nat.le_refl _) _
  obtain ⟨z0, z1, z2⟩ := cell_box3 w (.string t.bond) (.int .i64 t.src) (.int .i64 t.dst) 35
  have hv0 := hv.below hb0
  have HV := Lib.hid hv0
  unfold tieAgg
  clear hcm hlc hch hv hv0
  go_enter Try.func121, Try.ntmps121
  go_wp2_with fail
  generalize hW0 : w.alloc (.cells #[.string t.bond, .int .i64 t.src, .int .i64 t.dst] 35) = w0 at *
  have hw0 := hb0.size
  clear hW0
  go_loopw [9, 10] (fun i j wr => ∃ lo hi : Nat, lo ≤ pos ∧ pos ≤ hi ∧ hi ≤ l.length ∧ i = .int .i64 lo ∧ j = .int .i64 hi ∧ Below w0.heap.size w0 wr) (fun i j _ => (intOf j).toNat - (intOf i).toNat)
  case atStart => exact ⟨0, l.length, Nat.zero_le _, hpos, Nat.le_refl _, rfl, rfl, Below.refl _ _⟩
  case round =>
    obtain ⟨lo, hi, hlo, hhi, hhl, rfl, rfl, hb⟩ := hrel
    have y0 := cell_below hb z0
    have y1 := cell_below hb z1
    have y2 := cell_below hb z2
    clear z0 z1 z2
    by_cases hlt : lo < hi
    · obtain ⟨d, hd⟩ : ∃ d, l[(lo + hi) / 2]? = some d := ⟨_, List.getElem?_eq_getElem (by omega)⟩
      have HD : Hid (l[(lo + hi) / 2]? = some d) := hd
      obtain ⟨b, o, rfl, hok, x0, x1, x2⟩ := tie_at (HV.out.below hb) hd
      have hm1 : (lo + hi) / 2 < hi := by omega
      have hm2 : lo ≤ (lo + hi) / 2 := by omega
      clear hd
      by_cases hc : tieO d t < 0
      · have hmp : (lo + hi) / 2 < pos := by
          rcases Nat.lt_or_ge ((lo + hi) / 2) pos with h | h
          · exact h
          · have := P2.out _ _ h HD.out; omega
        go_wp2_with fail
        refine wp_mid_k 6 _ rfl rfl (by kernel_rfl) (by kernel_rfl) ?_
        simp only [List.take_succ_cons, List.take_zero, List.drop_succ_cons, List.drop_zero]
        repeat (go_big_quiet_step (fail))
        refine wpQuiet_nil ?_
        intro _ hw'
        obtain ⟨nq, hw''⟩ := hw'
        subst hw''
        intro K hK
        have hcall := order_any d t (wr.drewN nq)
        generalize tieO d t = q at *
        go_wp2_with fail
        refine hcall.mono ?_
        rintro e w3 ⟨rfl, hb3⟩
        have hB3 := (below_drewN hb nq).trans (hb3.mono hb.size)
        clear hcall
        refine hK _ _ ?_
        repeat (go_big_quiet_step (fail))
        refine wpQuiet_nil ?_
        intro _ hw'
        obtain ⟨nq2, hw''⟩ := hw'
        subst hw''
        clear hK
        go_wp2_with fail
        go_roundw
        case rel => exact ⟨(lo + hi) / 2 + 1, hi, by omega, hhi, hhl, by go_num, rfl, below_drewN hB3 _⟩
        case measure => simp [intOf]; omega
      · have hmp : pos ≤ (lo + hi) / 2 := by
          rcases Nat.lt_or_ge ((lo + hi) / 2) pos with h | h
          · have := P1.out _ _ h HD.out; omega
          · exact h
        have hc' : 0 ≤ tieO d t := by omega
        go_wp2_with fail
        refine wp_mid_k 6 _ rfl rfl (by kernel_rfl) (by kernel_rfl) ?_
        simp only [List.take_succ_cons, List.take_zero, List.drop_succ_cons, List.drop_zero]
        repeat (go_big_quiet_step (fail))
        refine wpQuiet_nil ?_
        intro _ hw'
        obtain ⟨nq, hw''⟩ := hw'
        subst hw''
        intro K hK
        have hcall := order_any d t (wr.drewN nq)
        generalize tieO d t = q at *
        go_wp2_with fail
        refine hcall.mono ?_
        rintro e w3 ⟨rfl, hb3⟩
        have hB3 := (below_drewN hb nq).trans (hb3.mono hb.size)
        clear hcall
        refine hK _ _ ?_
        repeat (go_big_quiet_step (fail))
        refine wpQuiet_nil ?_
        intro _ hw'
        obtain ⟨nq2, hw''⟩ := hw'
        subst hw''
        clear hK
        go_wp2_with fail
        go_roundw
        case rel => exact ⟨lo, (lo + hi) / 2, hlo, by omega, by omega, rfl, by go_num, below_drewN hB3 _⟩
        case measure => simp [intOf]; omega
    · obtain rfl : lo = hi := by omega
      obtain rfl : lo = pos := by omega
      by_cases hl : lo < l.length
      · obtain ⟨d, hd⟩ : ∃ d, l[lo]? = some d := ⟨_, List.getElem?_eq_getElem hl⟩
        have HE : Hid (eqAt (tieC t) l lo = (tieO d t == 0)) := by unfold eqAt; rw [hd]; rfl
        have hl' : (lo : Int) < (l.length : Int) := by omega
        have hl2 : decide ((lo : Int) < (l.length : Int)) = true := by simpa using hl
        obtain ⟨b, o, rfl, hok, x0, x1, x2⟩ := tie_at (HV.out.below hb) hd
        clear hd
        have hkeep := And.intro x0 (And.intro x1 (And.intro x2 (And.intro y0 (And.intro y1 y2))))
        have HO : Hid (∀ W : World, Calls Try.prog 38 #[.agg #[.string d.bond, .int .i64 d.src, .int .i64 d.dst], .agg #[.string t.bond, .int .i64 t.src, .int .i64 t.dst]] W fun e w' => e = .returned (.int .i64 (tieO d t)) ∧ Below W.heap.size W w') := fun W => order_any d t W
        generalize tieO d t = q at *
        go_wp2_with fail
        go_region_held3 (fun w' => w'.cell? ⟨b, o + lo * 3, none⟩ = some (.string d.bond) ∧ w'.cell? ⟨b, o + lo * 3 + 1, none⟩ = some (.int .i64 d.src) ∧ w'.cell? ⟨b, o + lo * 3 + 2, none⟩ = some (.int .i64 d.dst) ∧ w'.cell? ⟨w.heap.size, 0, none⟩ = some (.string t.bond) ∧ w'.cell? ⟨w.heap.size, 1, none⟩ = some (.int .i64 t.src) ∧ w'.cell? ⟨w.heap.size, 2, none⟩ = some (.int .i64 t.dst))
          (first
            | exact hkeep
            | go_keep)
          (first
            | (go_at_call 38
               refine (HO.out _).mono ?_
               rintro e w3 ⟨rfl, hb3⟩
               have hkeep := And.intro (cell_below hb3 x0) (And.intro (cell_below hb3 x1) (And.intro (cell_below hb3 x2) (And.intro (cell_below hb3 y0) (And.intro (cell_below hb3 y1) (cell_below hb3 y2)))))))
        all_goals
          go_wp2_with fail
          go_ret2
          exact ⟨by rw [HT.out, HE.out]; rfl, hb0.trans ((hb.trans (((Below.refl wr.heap.size wr).drew.trans hb3).mono hb.size)).mono hw0)⟩
      · have HE : Hid (eqAt (tieC t) l lo = false) := by unfold eqAt; rw [List.getElem?_eq_none (by omega)]; rfl
        have hl2 : decide ((lo : Int) < (l.length : Int)) = false := by simp; omega
        have hl3 : (l.length : Int) ≤ (lo : Int) := by omega
        go_wp2_with fail
        go_quiet (fail)
        go_wp2_with fail
        go_ret2
        exact ⟨by rw [HT.out, HE.out]; rfl, hb0.trans ((below_drewN hb _).mono hw0)⟩
end Go.Proofs.Ytdfeloeainabjaa
