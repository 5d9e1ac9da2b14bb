/- Contract: the law GraphFull answers true. -/
import Derived.Test.YtdfeloeainabjaaDoorManyP
import Derived.Test.YtdfeloeainabjaaDoorGNext
namespace Go.Proofs.YtdfeloeainabjaaDoor
open Go Go.RowKit

theorem next_many {n t : Nat} (hn : n ≤ 60) (ht : t ≤ 120) : nextE (manyG n t) = 0 ∧ nextN (manyG n t) = (n : Int) + 1 := by
  have h0 := many_ok hn ht
  have h1 : nextI (manyG n t).nodes = (n : Int) + 1 := by
    unfold nextI
    cases n with
    | zero => rfl
    | succ m =>
      have : (manyG (m + 1) t).nodes[(manyG (m + 1) t).nodes.length - 1]? = some (manyNod m) := by simp [manyG]
      rw [this]
      simp [manyNod]
  have h2 : nextE (manyG n t) = 0 := by
    unfold nextE
    rw [if_pos h0, h1, idB_of (by omega) (by omega)]; rfl
  exact ⟨h2, by unfold nextN; rw [if_pos h2]; exact h1⟩
set_option maxHeartbeats 4000000 in
theorem graphFull_any (n t : Int) (w : World) (hg : GlobOk w) (_hn : I64 n) (_ht : I64 t) :
    Calls Tryd.prog 3 #[.int .i64 n, .int .i64 t] w fun e w' => e = .returned (.bool true) ∧ Below w.heap.size w w' := by
  by_cases hout : n < 0 ∨ 80 < n ∨ t < 0 ∨ 140 < t
  · have hd : (decide (n < 0) || decide (80 < n) || decide (t < 0) || decide (140 < t)) = true := by simp; omega
    rcases hout with h | h | h | h
    all_goals
      clear hg hd
      go_enter Tryd.func3, Tryd.ntmps3
      go_wp2_with fail
      all_goals go_ret
      all_goals exact ⟨rfl, Below.refl _ _⟩
  obtain ⟨k, rfl⟩ : ∃ k : Nat, n = k := ⟨n.toNat, by omega⟩
  obtain ⟨m, rfl⟩ : ∃ m : Nat, t = m := ⟨t.toNat, by omega⟩
  have hk1 : (k : Int) ≤ 80 := by omega
  have hm1 : (m : Int) ≤ 140 := by omega
  have hmany := many_any k m w (by omega) (by omega)
  clear hout
  go_enter Tryd.func3, Tryd.ntmps3
  go_wp2_with fail
  refine hmany.mono ?_
  clear hmany
  rintro e w1 ⟨v, u, rfl, hG, hb1⟩
  have hG2 := hG
  obtain ⟨A, c, rfl, _, _⟩ := hG2.1.form
  obtain ⟨A', c', rfl, _, _⟩ := hG2.2.form
  clear hG2
  obtain ⟨z0, z1⟩ := cell_box2 w1 (.slice A (manyG k m).nodes.length c) (.slice A' (manyG k m).ties.length c') 25
  have hbb := hb1.alloc hb1.size (.cells #[.slice A (manyG k m).nodes.length c, .slice A' (manyG k m).ties.length c'] 25)
  have hGb := hG.below ((Below.refl w1.heap.size w1).alloc (Nat.le_refl _) (.cells #[.slice A (manyG k m).nodes.length c, .slice A' (manyG k m).ties.length c'] 25))
  have hchk := grfCheck_any (manyG k m) _ _ _ hGb
  have H60 := Lib.hid (many_ok (n := k) (t := m))
  have HFU := Lib.hid (many_full (n := k) (t := m))
  have HNX := Lib.hid (next_many (n := k) (t := m))
  generalize manyG k m = g at *
  clear hG
  go_wp2_with fail
  refine hchk.mono ?_
  clear hchk
  rintro e w2 ⟨rfl, hb2⟩
  have hB2 := hbb.trans (hb2.mono hbb.size)
  have y0 := cell_below hb2 z0
  have y1 := cell_below hb2 z1
  have hG2 := hGb.below hb2
  have hg2 := hg.below hB2
  clear z0 z1 hGb hg hbb hb1 hb2
  by_cases hfull : 60 < k ∨ 120 < m
  · have hE := HFU.out hfull
    have hs := same_any (grfE g) 4 w2 hg2
    rw [hE] at hs ⊢
    clear hE HFU H60 HNX
    by_cases h60 : 60 < k
    · have h60' : (60 : Int) < (k : Int) := by omega
      go_wp2_with fail
      refine hs.mono ?_
      clear hs
      rintro e w3 ⟨rfl, hb3⟩
      go_wp2_with fail
      go_ret
      exact ⟨rfl, hB2.trans (hb3.mono hB2.size)⟩
    · have h60' : (k : Int) ≤ 60 := by omega
      have h120 : (120 : Int) < (m : Int) := by omega
      go_wp2_with fail
      refine hs.mono ?_
      clear hs
      rintro e w3 ⟨rfl, hb3⟩
      go_wp2_with fail
      go_ret
      exact ⟨rfl, hB2.trans (hb3.mono hB2.size)⟩
  · have hE := H60.out (by omega) (by omega)
    obtain ⟨hN1, hN2⟩ := HNX.out (by omega) (by omega)
    have hnx := next_any g _ _ w2 hG2
    rw [hN1, hN2] at hnx
    rw [hE]
    have h60' : (k : Int) ≤ 60 := by omega
    have h120' : (m : Int) ≤ 120 := by omega
    clear hE hN1 hN2 HFU H60 HNX hfull
    rw [errV_zero rfl] at hnx ⊢
    go_wp2_with fail
    refine hnx.mono ?_
    clear hnx
    rintro e w3 ⟨rfl, hb3⟩
    go_wp2_with fail
    go_ret
    exact ⟨rfl, hB2.trans (hb3.mono hB2.size)⟩
end Go.Proofs.YtdfeloeainabjaaDoor
