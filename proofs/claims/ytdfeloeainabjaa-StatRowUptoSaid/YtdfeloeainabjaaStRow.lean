/- Contract: the law StatRow answers true. -/
import Derived.Test.YtdfeloeainabjaaRowP
import Derived.Test.YtdfeloeainabjaaDelAll
import Derived.Test.YtdfeloeainabjaaStatA
namespace Go.Proofs.Ytdfeloeainabjaa
open Go Go.RowKit

def looseOp (c : Nat) : Opr := ⟨6, ⟨0, ⟨#[]⟩, []⟩, ⟨⟨#[]⟩, ⟨0, 0, ⟨#[]⟩⟩⟩, manyTie c⟩
theorem looseOp_r (c : Nat) (hc : c ≤ 1000) (w : World) : OprR w (.slice none 0 0) (looseOp c) :=
  ⟨Sl.nil 0 (Nat.zero_le _) none, by show (0 : Nat) ≤ 1048576; omega, by show I64 (0 : Int); unfold I64; omega, ⟨by show (0 : Nat) ≤ 1048576; omega, by show I64 (0 : Int); unfold I64; omega, by show I64 (0 : Int); unfold I64; omega, by show (0 : Nat) ≤ 1048576; omega⟩,
    ⟨by show (1 : Nat) ≤ 1048576; omega, by show I64 ((c : Int) + 1); unfold I64; omega, by show I64 ((c : Int) + 2); unfold I64; omega⟩⟩
theorem loose_do {n c : Nat} (hn : n ≤ 50) (hc : c < n - 1) : doE (manyG n (n - 1)) (looseOp c) = 0 ∧ doG (manyG n (n - 1)) (looseOp c) = cutRow n c := by
  obtain ⟨h1, h2⟩ := tpos_many n (by omega) c hc
  have h3 : grfE (manyG n (n - 1)) = 0 := many_ok (by omega) (by omega)
  have h0 : doE (manyG n (n - 1)) (looseOp c) = 0 := by
    unfold doE
    rw [if_pos h3]
    show (if thas (manyG n (n - 1)).ties (manyTie c) then (0 : Int) else 5) = 0
    rw [h2]; rfl
  refine ⟨h0, ?_⟩
  unfold doG
  rw [if_pos h0]
  show (⟨(manyG n (n - 1)).nodes, (manyG n (n - 1)).ties.take (tpos (manyG n (n - 1)).ties (manyTie c)) ++ (manyG n (n - 1)).ties.drop (tpos (manyG n (n - 1)).ties (manyTie c) + 1)⟩ : Grf) = _
  rw [h1]
  rfl
theorem row_far {n f : Nat} (hn : n ≤ 50) (hf : f < n) : farE (manyG n (n - 1)) ((f : Int) + 1) = 0 ∧ farL (manyG n (n - 1)) ((f : Int) + 1) = farI (manyG n (n - 1)) f ∧ (farI (manyG n (n - 1)) f).length = n ∧ ∀ k, k < n → (farI (manyG n (n - 1)) f)[k]? = some (gap f k) := by
  have hR := row_whole (n := n) (by omega)
  have h3 : grfE (manyG n (n - 1)) = 0 := many_ok (by omega) (by omega)
  obtain ⟨a1, a2⟩ := far_of_id h3 (m := f) (by rw [hR.len]; exact hf)
  rw [hR.id f hf] at a1 a2
  have hl : (farI (manyG n (n - 1)) f).length = n := by rw [farI_len (by rw [hR.len]; exact hf), hR.len]
  refine ⟨a1, a2, hl, fun k hk => ?_⟩
  have := hR.far (by omega) hf hk
  rw [List.getD, List.getElem?_eq_getElem (by omega)] at this
  rw [List.getElem?_eq_getElem (by omega)]
  simpa using this
set_option maxRecDepth 100000 in
set_option maxHeartbeats 16000000 in
theorem statRow_any (n from' cut : Int) (w : World) (_h0 : I64 n) (_h1 : I64 from') (_h2 : I64 cut) :
    Calls Try.prog 8 #[.int .i64 n, .int .i64 from', .int .i64 cut] w fun e w' => e = .returned (.bool true) ∧ Below w.heap.size w w' := by
  by_cases hout : n < 1 ∨ 50 < n ∨ from' < 1 ∨ n < from'
  · by_cases h1 : n < 1
    · go_enter Try.func8, Try.ntmps8
      go_wp2_with fail
      all_goals go_ret
      all_goals exact ⟨rfl, Below.refl _ _⟩
    have h1' : 1 ≤ n := by omega
    by_cases h2 : 50 < n
    · clear hout h1
      go_enter Try.func8, Try.ntmps8
      go_wp2_with fail
      all_goals go_ret
      all_goals exact ⟨rfl, Below.refl _ _⟩
    have h2' : n ≤ 50 := by omega
    by_cases h3 : from' < 1
    · clear hout h1 h2
      go_enter Try.func8, Try.ntmps8
      go_wp2_with fail
      all_goals go_ret
      all_goals exact ⟨rfl, Below.refl _ _⟩
    have h3' : 1 ≤ from' := by omega
    have h4 : n < from' := by omega
    clear hout h1 h2 h3
    go_enter Try.func8, Try.ntmps8
    go_wp2_with fail
    all_goals go_ret
    all_goals exact ⟨rfl, Below.refl _ _⟩
  obtain ⟨N, rfl⟩ : ∃ k : Nat, n = k := ⟨n.toNat, by omega⟩
  obtain ⟨f, rfl⟩ : ∃ k : Nat, from' = (k : Int) + 1 := ⟨(from' - 1).toNat, by omega⟩
  have hN1 : (1 : Int) ≤ (N : Int) := by omega
  have hN5 : (N : Int) ≤ 50 := by omega
  have hf1 : (1 : Int) ≤ (f : Int) + 1 := by omega
  have hf2 : (f : Int) + 1 ≤ (N : Int) := by omega
  have hm := many_any N (N - 1) w (by omega) (by omega)
  rw [show ((N - 1 : Nat) : Int) = (N : Int) - 1 by omega] at hm
  have HF := Lib.hid (row_far (n := N) (f := f) (by omega) (by omega))
  have HP : Hid (grfE (manyG N (N - 1)) = 0 ∧ partsL (manyG N (N - 1)) = [partOf (manyG N (N - 1)) 0]) := by
    have h3 : grfE (manyG N (N - 1)) = 0 := many_ok (by omega) (by omega)
    exact ⟨h3, by unfold partsL; rw [if_pos h3]; exact (row_whole (by omega)).whole (by omega) (by omega)⟩
  clear hout _h0 _h1
  go_enter Try.func8, Try.ntmps8
  go_wp2_with fail
  refine hm.mono ?_
  clear hm
  rintro e w1 ⟨vn, vt, rfl, hG, hb1⟩
  have HLD : Hid (∀ c, c < N - 1 → doE (manyG N (N - 1)) (looseOp c) = 0 ∧ doG (manyG N (N - 1)) (looseOp c) = cutRow N c) := fun c hc => loose_do (by omega) hc
  obtain ⟨f1, f2, f3, f4⟩ := HF.out
  obtain ⟨p1, p2⟩ := HP.out
  have hft := farTop_any (manyG N (N - 1)) vn vt _ (hG.below ((Below.refl _ _).alloc (Nat.le_refl _) (.cells #[vn, vt] 29))) ((f : Int) + 1)
  have HPT : Hid (∀ W, GrfR W vn vt (manyG N (N - 1)) → Calls Try.prog 11 #[.agg #[vn, vt]] W (RetSl (slL intL) [partOf (manyG N (N - 1)) 0] 0 W)) := fun W hg => by
    have := parts_any (manyG N (N - 1)) vn vt W hg
    rwa [p1, p2] at this
  have HDO : Hid (∀ c W, c < N - 1 → GrfR W vn vt (manyG N (N - 1)) → Calls Try.prog 20 #[.agg #[vn, vt], .agg (oprCells (looseOp c) (.slice none 0 0))] W (RetGO (cutRow N c) 0 W)) := fun c W hc hg => by
    have := Do_own (manyG N (N - 1)) (looseOp c) vn vt (.slice none 0 0) W hg (looseOp_r c (by omega) W)
    rwa [(HLD.out c hc).1, (HLD.out c hc).2] at this
  rw [f1, f2] at hft
  have HFK := Lib.hid f4
  generalize farI (manyG N (N - 1)) f = L at *
  generalize partOf (manyG N (N - 1)) 0 = Q at *
  generalize manyG N (N - 1) = G at *
  obtain ⟨An, cn, rfl, _, _⟩ := hG.1.form
  obtain ⟨At, ct, rfl, _, _⟩ := hG.2.form
  have hbx : Below w1.heap.size w1 (w1.alloc (.cells #[.slice An G.nodes.length cn, .slice At G.ties.length ct] 29)) := (Below.refl _ _).alloc (Nat.le_refl _) _
  obtain ⟨x0, x1⟩ := cell_box2 w1 (.slice An G.nodes.length cn) (.slice At G.ties.length ct) 29
  have HG2 := Lib.hid (hG.below hbx)
  have hB2 := hb1.trans (hbx.mono hb1.size)
  have hLl : (L.length : Int) = (N : Int) := by omega
  clear hG hbx hb1 HF HP f1 f2 p1 p2 f4 HLD
  go_wp2_with fail
  generalize w1.alloc (.cells #[.slice An G.nodes.length cn, .slice At G.ties.length ct] 29) = w2 at *
  refine hft.mono ?_
  clear hft
  rintro e w3 ⟨u3, he, hu3, hb3⟩
  rw [errV_zero rfl] at he
  subst he
  have hB3 := hB2.trans (hb3.mono hB2.size)
  have x0 := cell_below hb3 x0
  have x1 := cell_below hb3 x1
  have hpp := HPT.out w3 (HG2.out.below hb3)
  obtain ⟨A3, c3, rfl, _, _⟩ := hu3.form
  have HU3 := Lib.hid hu3
  clear hu3
  go_wp2_with fail
  refine hpp.mono ?_
  clear hpp
  rintro e w4 ⟨u4, he, hu4, hb4⟩
  rw [errV_zero rfl] at he
  subst he
  have hb24 := hb3.trans (hb4.mono hb3.size)
  have hB4 := hB2.trans (hb24.mono hB2.size)
  have x0 := cell_below hb4 x0
  have x1 := cell_below hb4 x1
  obtain ⟨A4, c4, rfl, _, _⟩ := hu4.form
  have HU4 := Lib.hid (HU3.out.below hb4)
  have HG4 := Lib.hid (HG2.out.below hb24)
  have hw4 := hB4.size
  clear hu4 HU3 hb3 hb4 hB3
  go_wp2_with fail
  go_loopw [12] (fun i wr => ∃ k : Nat, k ≤ N ∧ i = .int .i64 k ∧ wr = w4) (fun i _ => N - (intOf i).toNat)
  case atStart => exact ⟨0, Nat.zero_le _, rfl, rfl⟩
  case round =>
    obtain ⟨k, hk, rfl, rfl⟩ := hrel
    by_cases hlt : k < N
    · have hlt' : (k : Int) < (N : Int) := by omega
      obtain ⟨b, o, rfl, hi64, e0⟩ := int_at HU4.out (HFK.out k hlt)
      by_cases hd : (f : Int) + 1 - k - 1 < 0
      · have hgp : gap f k = -((f : Int) + 1 - k - 1) := by unfold gap; rw [if_neg (by omega)]; omega
        rw [hgp] at e0
        clear hgp
        go_wp2_with fail
        go_roundw
        case rel => exact ⟨k + 1, by omega, by go_num, trivial⟩
        case measure => simp [intOf]; omega
      · have hgp : gap f k = (f : Int) + 1 - k - 1 := by unfold gap; rw [if_pos (by omega)]; omega
        have hd' : 0 ≤ (f : Int) + 1 - k - 1 := by omega
        rw [hgp] at e0
        clear hgp
        go_wp2_with fail
        go_roundw
        case rel => exact ⟨k + 1, by omega, by go_num, trivial⟩
        case measure => simp [intOf]; omega
    · obtain rfl : k = N := by omega
      by_cases hcut : cut < 1 ∨ (k : Int) ≤ cut
      · rcases hcut with h | h
        · go_wp2_with fail
          all_goals go_ret
          all_goals exact ⟨rfl, hB4⟩
        · have h' : 1 ≤ cut := by omega
          go_wp2_with fail
          all_goals go_ret
          all_goals exact ⟨rfl, hB4⟩
      · obtain ⟨c, rfl⟩ : ∃ c : Nat, cut = (c : Int) + 1 := ⟨(cut - 1).toNat, by omega⟩
        have hc1 : (1 : Int) ≤ (c : Int) + 1 := by omega
        have hc2 : (c : Int) + 1 < (k : Int) := by omega
        have hdo : Calls Try.prog 20 #[.agg #[.slice An G.nodes.length cn, .slice At G.ties.length ct], .agg #[.int .i64 6, .int .i64 0, .string ⟨#[]⟩, .slice none 0 0, .string ⟨#[]⟩, .int .i64 0, .int .i64 0, .string ⟨#[]⟩, .string ⟨#[112]⟩, .int .i64 ((c : Int) + 1), .int .i64 ((c : Int) + 1 + 1)]] wr (RetGO (cutRow k c) 0 wr) := by
          rw [show (c : Int) + 1 + 1 = (c : Int) + 2 by omega]
          exact HDO.out c wr (by omega) HG4.out
        have hrow := (row_cut (n := k) (c := c) (by omega) (by omega)).two (by omega)
        have hok : grfE (cutRow k c) = 0 := cut_ok (by omega)
        have HPC : Hid (∀ un ut W, GrfR W un ut (cutRow k c) → Calls Try.prog 11 #[.agg #[un, ut]] W (RetSl (slL intL) [partOf (cutRow k c) 0, partOf (cutRow k c) (c + 1)] 0 W)) := fun un ut W hg => by
          have := parts_any (cutRow k c) un ut W hg
          have e : partsL (cutRow k c) = [partOf (cutRow k c) 0, partOf (cutRow k c) (c + 1)] := by unfold partsL; rw [if_pos hok]; exact hrow.1
          rwa [hok, e] at this
        have hq1 := hrow.2.1
        have HQ2 := Lib.hid hrow.2.2
        generalize partOf (cutRow k c) 0 = Q1 at *
        generalize partOf (cutRow k c) (c + 1) = Q2 at *
        generalize cutRow k c = R at *
        clear hrow hok hcut HDO HPT HFK HG2
        go_wp2_with fail
        refine hdo.mono ?_
        clear hdo
        rintro e w5 ⟨un, ut, he, ⟨xs, ho⟩, hb5⟩
        rw [errV_zero rfl] at he
        subst he
        have hB5 := hB4.trans (hb5.mono hw4)
        have hG5 := ho.r
        obtain ⟨Au, cu, rfl, _, _⟩ := ho.n.form
        obtain ⟨Av, cv, rfl, _, _⟩ := ho.t.form
        have hb6 : Below w5.heap.size w5 (w5.alloc (.cells #[.slice Au R.nodes.length cu, .slice Av R.ties.length cv] 29)) := (Below.refl _ _).alloc (Nat.le_refl _) _
        obtain ⟨y0, y1⟩ := cell_box2 w5 (.slice Au R.nodes.length cu) (.slice Av R.ties.length cv) 29
        have hpc := HPC.out _ _ _ (hG5.below hb6)
        have hB6 := hB5.trans (hb6.mono hB5.size)
        clear ho hG5 hb6
        go_wp2_with fail
        refine hpc.mono ?_
        clear hpc
        rintro e w7 ⟨u7, he, hu7, hb7⟩
        rw [errV_zero rfl] at he
        subst he
        have hB7 := hB6.trans (hb7.mono hB6.size)
        obtain ⟨A7, c7, rfl, _, _⟩ := hu7.form
        obtain ⟨b7, o7, rfl, q1, hs1, e0⟩ := sl_at hu7 (k := 0) (d := Q1) rfl
        obtain ⟨b8, o8, hA, q2, hs2, e1⟩ := sl_at hu7 (k := 1) (d := Q2) rfl
        injection hA with hA
        injection hA with hA1 hA2
        subst hA1; subst hA2
        have hin : ∀ W, W = w7 → Calls Try.prog 14 #[q2, .int .i64 k] W fun e w' => e = .returned (.bool true) ∧ w7 = w' := fun W hW => by
          subst hW
          have := in_any Q2 (k : Int) q2 W hs2
          rwa [HQ2.out] at this
        have hin := hin w7 rfl
        obtain ⟨A1, c1, rfl, _, _⟩ := hs1.form
        obtain ⟨A2, c2, rfl, _, _⟩ := hs2.form
        rw [hq1, Nat.add_zero] at e0
        have hq1' : ((c + 1 : Nat) : Int) = (c : Int) + 1 := by omega
        clear hu7 hs1 hs2 hq1 HPC y0 y1
        go_wp2_with fail
        refine hin.mono ?_
        clear hin
        rintro e w8 ⟨rfl, rfl⟩
        go_wp2_with fail
        go_ret
        exact ⟨rfl, hB7⟩
end Go.Proofs.Ytdfeloeainabjaa
