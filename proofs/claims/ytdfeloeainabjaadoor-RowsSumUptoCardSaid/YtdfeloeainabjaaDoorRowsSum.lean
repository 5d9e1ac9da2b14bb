/- Contract: the law RowsSum answers true. -/
import Derived.Test.YtdfeloeainabjaaDoorRSumP
import Derived.Test.YtdfeloeainabjaaDoorTold
namespace Go.Proofs.YtdfeloeainabjaaDoor
open Go Go.RowKit

/-- Rows of numbers of which each one is the call's own. -/
def OwnInts (w : World) (B : Nat) : List (List Int) → List Value → Prop
  | [], xs => xs = []
  | r :: l, xs => ∃ u ys, xs = [u] ++ ys ∧ (∀ x ∈ r, I64 x) ∧ Own w B 3 1 u r.length (r.map (Value.int .i64)) ∧ OwnInts w B l ys
theorem OwnInts.same {w w' : World} {B : Nat} (hs : Same 3 w w') : ∀ {l : List (List Int)} {xs : List Value}, OwnInts w B l xs → OwnInts w' B l xs
  | [], _, h => h
  | _ :: _, _, h => by
    obtain ⟨u, ys, rfl, h1, h2, h3⟩ := h
    exact ⟨u, ys, rfl, h1, h2.same hs, h3.same hs⟩
theorem OwnInts.snoc {w : World} {B : Nat} {r : List Int} {u : Value} (h1 : ∀ x ∈ r, I64 x) (h2 : Own w B 3 1 u r.length (r.map (Value.int .i64))) :
    ∀ {l : List (List Int)} {xs : List Value}, OwnInts w B l xs → OwnInts w B (l ++ [r]) (xs ++ [u])
  | [], xs, h => by rw [show xs = [] from h]; exact ⟨u, [], by simp, h1, h2, rfl⟩
  | e :: l, xs, h => by
    obtain ⟨v, ys, rfl, k1, k2, k3⟩ := h
    exact ⟨v, ys ++ [u], by simp, k1, k2, k3.snoc h1 h2⟩
theorem OwnInts.row {w : World} {B : Nat} : ∀ {l : List (List Int)} {xs : List Value}, OwnInts w B l xs → Row (slL intL) w l xs
  | [], _, h => h
  | _ :: _, _, h => by
    obtain ⟨u, ys, rfl, h1, h2, h3⟩ := h
    exact ⟨_, ys, rfl, ⟨u, rfl, h2.ints h1⟩, h3.row⟩
structure IiI (B : Nat) (w wr : World) (v : Value) (k : Nat) (l : List (List Int)) (xs : List Value) : Prop where
  b : Below B w wr
  z : B ≤ wr.heap.size
  n : Own wr B 47 1 v k xs
  o : OwnInts wr B l xs
theorem IiI.step {B : Nat} {w wr W w7 : World} {v v7 u : Value} {k : Nat} {l : List (List Int)} {xs : List Value} {r : List Int} (hI : IiI B w wr v k l xs) (hbW : Below wr.heap.size wr W) (hr : ∀ x ∈ r, I64 x)
    (hu : Own W B 3 1 u r.length (r.map (Value.int .i64))) (hown7 : Own w7 B 47 1 v7 (k + 1) (xs ++ [u])) (hg7 : W.grownBy w7 v.ownBlock) : IiI B w w7 v7 (k + 1) (l ++ [r]) (xs ++ [u]) := by
  have hoW := hI.n.below hbW
  have hs : Same 3 W w7 := Same.grown hoW (by decide) hg7
  have hz := hI.z
  have hW := hbW.size
  exact ⟨(hI.b.trans (hbW.mono hz)).grown hg7 (by omega) (fun j e => (hoW.lt j e).1), by have := hg7.size; omega, hown7, (hI.o.same ((Same.below hbW).trans hs)).snoc hr (hu.same hs)⟩
theorem introw_info : (Tryd.prog.info? 47).map (fun i => (i.zero, i.size, i.bytes)) = some (some (.slice none 0 0), 1, 24) := by kernel_rfl

set_option maxRecDepth 100000 in
set_option maxHeartbeats 8000000 in
theorem rowsSum_any (n at' : Int) (w : World) (hg : GlobOk w) (_h0 : I64 n) (_h1 : I64 at') :
    Calls Tryd.prog 5 #[.int .i64 n, .int .i64 at'] w fun e w' => e = .returned (.bool true) ∧ Below w.heap.size w w' := by
  by_cases hout : n < 0 ∨ 50 < n
  · rcases hout with h | h
    all_goals
      clear hg
      go_enter Tryd.func5, Tryd.ntmps5
      go_wp2_with fail
      all_goals go_ret
      all_goals exact ⟨rfl, Below.refl _ _⟩
  obtain ⟨N, rfl⟩ : ∃ k : Nat, n = k := ⟨n.toNat, by omega⟩
  have hN0 : (0 : Int) ≤ (N : Int) := by omega
  have hN5 : (N : Int) ≤ 50 := by omega
  have hm := many_any N 0 w (by omega) (by omega)
  clear hout
  obtain ⟨i0, ei, ez, ez1, ez2⟩ := info_parts introw_info
  go_enter Tryd.func5, Tryd.ntmps5
  go_wp2_with fail
  refine hm.mono ?_
  clear hm
  rintro e w1 ⟨vn, vt, rfl, hG, hb1⟩
  obtain ⟨An, cn, rfl, _, _⟩ := hG.1.form
  obtain ⟨At, ct, rfl, _, _⟩ := hG.2.form
  have hb2 : Below w.heap.size w (w1.alloc (.cells #[.slice An (manyG N 0).nodes.length cn, .slice At (manyG N 0).ties.length ct] 25)) := hb1.alloc hb1.size _
  obtain ⟨z0, z1⟩ := cell_box2 w1 (.slice An (manyG N 0).nodes.length cn) (.slice At (manyG N 0).ties.length ct) 25
  have hG2 := hG.below ((Below.refl _ _).alloc (Nat.le_refl _) (.cells #[.slice An (manyG N 0).nodes.length cn, .slice At (manyG N 0).ties.length ct] 25))
  have HG := Lib.hid hG2
  have hw1s := hb1.size
  clear hG hG2
  go_wp2_with fail
  generalize hW2 : w1.alloc (.cells #[.slice An (manyG N 0).nodes.length cn, .slice At (manyG N 0).ties.length ct] 25) = w2 at *
  have hs2 : w2.heap.size = w1.heap.size + 1 := by rw [← hW2]; simp
  have hI0 : IiI w2.heap.size w2 w2 (.slice none 0 0) 0 (iiW 0) [] := ⟨Below.refl _ _, Nat.le_refl _, Own.nil _ _ _ _, rfl⟩
  clear hW2
  go_loopw [6, 7] (fun v i wr => ∃ (k : Nat) (xs : List Value), k ≤ N ∧ i = .int .i64 ((k : Int) + 1) ∧ IiI w2.heap.size w2 wr v k (iiW k) xs) (fun _ i _ => N + 1 - (intOf i).toNat)
  case atStart => exact ⟨0, [], Nat.zero_le _, rfl, hI0⟩
  case round =>
    clear hI0
    obtain ⟨k, xs, hk, rfl, hI⟩ := hrel
    have HI := Lib.hid hI
    have hb := hI.b
    have hwz := hI.z
    obtain ⟨Av, cv, rfl, _, _⟩ := hI.n.form
    have y0 := cell_below hb z0
    have y1 := cell_below hb z1
    clear hI z0 z1
    by_cases hlt : k < N
    · have hlt' : (k : Int) + 1 ≤ (N : Int) := by omega
      have hbW : Below wr.heap.size wr ((wr.alloc (.cells #[.int .i64 ((k : Int) + 1), .int .i64 ((k : Int) + 1)] 3)).alloc (.cells #[.slice (some ⟨wr.heap.size, 0, none⟩) 2 2] 47)) := ((Below.refl _ _).alloc (Nat.le_refl _) _).alloc (by simp) _
      have hownW := HI.out.n.below hbW
      have hu : Own ((wr.alloc (.cells #[.int .i64 ((k : Int) + 1), .int .i64 ((k : Int) + 1)] 3)).alloc (.cells #[.slice (some ⟨wr.heap.size, 0, none⟩) 2 2] 47)) w2.heap.size 3 1 (.slice (some ⟨wr.heap.size, 0, none⟩) 2 2) 2 [.int .i64 ((k : Int) + 1), .int .i64 ((k : Int) + 1)] :=
        own_of_block (by rw [Below.heap_alloc _ _ _ (by simp)]; exact heap_alloc_new _ _) hwz rfl (by unfold maxLen; omega)
      have HU := Lib.hid hu
      have HBW := Lib.hid hbW
      clear hu hbW
      go_wp2_with (at_builtin; refine wpList_append_q _ rfl (.tmp 25) (.tmp 29) _ rfl w2.heap.size 47 i0 (.slice none 0 0) 1 24 Tryd.underlying46 ei ez ez1 ez2 rfl (by decide) (.slice Av k cv) k xs rfl hownW (some ⟨wr.heap.size + 1, 0, none⟩) 1 1 [.slice (some ⟨wr.heap.size, 0, none⟩) 2 2] rfl rfl (fun _ => ⟨_, rfl, fun j u hj => by rw [addr_add, Nat.zero_add, World.cell?_alloc_at _ _ _ _ (by simp)]; simpa using hj⟩) (fun u hu => by simp at hu; subst hu; rfl) (by unfold maxLen; omega) (by omega) (by simp; omega) ?_; intro v9 w9 hown9 hg9 hat9)
      have HN := Lib.hid (IiI.step HI.out HBW.out (r := [(k : Int) + 1, (k : Int) + 1]) (fun x hx => by simp at hx; subst hx; unfold I64; omega) HU.out hown9 hg9)
      clear hown9 hg9 hat9 hownW HI
      obtain ⟨A9, c9, rfl, _, _⟩ := HN.out.n.form
      go_roundw
      case rel => exact ⟨k + 1, _, by omega, by go_num, by rw [iiW_snoc]; exact HN.out⟩
      case measure => simp [intOf]; omega
    · obtain rfl : k = N := by omega
      have hge : (k : Int) < (k : Int) + 1 := by omega
      have hl5 : (k : Int) ≤ 50 := hN5
      have hbw : Below w.heap.size w wr := hb2.trans (hb.mono hb2.size)
      have HR : Hid (Sl (slL intL) wr (.slice Av (iiW k).length cv) (iiW k)) := by
        have h := HI.out.o.row
        have hn := HI.out.n
        have hn' : Own wr w2.heap.size 47 1 (.slice Av (iiW k).length cv) (iiW k).length xs := by rw [iiW_len]; exact hn
        exact Own.row (L := slL intL) hn' h
      have hbs : Below wr.heap.size wr (wr.alloc (.cells #[.string ⟨#[107]⟩] 9)) := (Below.refl _ _).alloc (Nat.le_refl _) _
      have hsk : Sl strL (wr.alloc (.cells #[.string ⟨#[107]⟩] 9)) (.slice (some ⟨wr.heap.size, 0, none⟩) 1 1) [⟨#[107]⟩] := sl_strs [⟨#[107]⟩] (fun x hx => by simp at hx; subst hx; show (1 : Nat) ≤ 1048576; omega) (by simp [maxLen]) (heap_alloc_new _ _)
      have hpk := pick_any (manyG k 0) (iiW k) at' [⟨#[107]⟩] _ _ _ _ _ ((HG.out.below hb).below hbs) (HR.out.below hbs) hsk
      rw [iiW_len] at hpk
      have HGL := Lib.hid (hg.below (hbw.trans (hbs.mono hbw.size)))
      have hB0 := hbw.trans (hbs.mono hbw.size)
      clear hsk HI hg
      go_wp2_with fail
      refine hpk.mono ?_
      clear hpk
      rintro e w5 ⟨v5, rfl, hl5', hb5⟩
      have hB5 := hB0.trans (hb5.mono hB0.size)
      have hgl := HGL.out.below hb5
      by_cases hat : at' < 0 ∨ 1 < at'
      · by_cases hk0 : k = 0
        · subst hk0
          generalize pickR (manyG 0 0) (iiW 0) at' [⟨#[107]⟩] = L at *
          generalize errV (pickE (manyG 0 0) (iiW 0) at' [⟨#[107]⟩]) = E at *
          obtain ⟨A5, c5, rfl, _, _⟩ := hl5'.form
          clear hl5'
          rcases hat with h | h
          all_goals
            go_wp2_with fail
            all_goals go_ret
            all_goals exact ⟨rfl, hB5⟩
        · have hpe := rsum_out (by omega) hk0 hat
          have hs := same_any 1 1 w5 hgl
          rw [hpe]
          have hk0' : ¬ ((k : Int) = 0) := by omega
          have hk0b : ((k : Int) == 0) = false := beq_eq_false_iff_ne.2 hk0'
          generalize errV 1 = E at *
          generalize pickR (manyG k 0) (iiW k) at' [⟨#[107]⟩] = L at *
          obtain ⟨A5, c5, rfl, _, _⟩ := hl5'.form
          clear hl5' hpe
          rcases hat with h | h
          all_goals
            go_wp2_with fail
            all_goals
              refine hs.mono ?_
              rintro e w6 ⟨rfl, hb6⟩
              go_wp2_with fail
              go_ret
              exact ⟨rfl, hB5.trans (hb6.mono hB5.size)⟩
      · obtain ⟨a, rfl⟩ : ∃ a : Nat, at' = a := ⟨at'.toNat, by omega⟩
        obtain ⟨f1, f2, f3⟩ := rsum_facts k (by omega) a (by omega)
        have hrs := rsum_any (pickR (manyG k 0) (iiW k) (a : Int) [⟨#[107]⟩]) ⟨#[107]⟩ v5 w5 hl5' (by show (1 : Nat) ≤ 1048576; omega)
        rw [f2, errV_zero rfl] at hrs
        rw [f1, errV_zero rfl]
        have ha0 : (0 : Int) ≤ (a : Int) := by omega
        have ha1 : (a : Int) ≤ 1 := by omega
        obtain ⟨A5, c5, rfl, _, _⟩ := hl5'.form
        rw [f3] at *
        obtain ⟨P, hP⟩ : ∃ P : Nat, P = k * (k + 1) := ⟨_, rfl⟩
        have hPi : (k : Int) * ((k : Int) + 1) = (P : Int) := by rw [hP]; push_cast; rfl
        have hP1 : (P : Int) ≤ 2550 := by
          have : (k : Int) * ((k : Int) + 1) ≤ 50 * 51 := Int.mul_le_mul hl5 (by omega) (by omega) (by omega)
          omega
        have hPd : (P : Int).tdiv 2 = ((P / 2 : Nat) : Int) := (Int.ofNat_tdiv P 2).symm
        rw [← hP] at hrs
        have hP2 : ((P / 2 : Nat) : Int) ≤ 2550 := by omega
        have hP3 : 0 ≤ ((P / 2 : Nat) : Int) := by omega
        clear hP hlt hge
        clear hl5' f1 f2 f3 hat
        generalize ((P / 2 : Nat) : Int) = S at *
        go_wp2_with fail
        refine hrs.mono ?_
        clear hrs
        rintro e w6 ⟨rfl, hb6⟩
        go_wp2_with fail
        go_ret
        exact ⟨rfl, hB5.trans (hb6.mono hB5.size)⟩
end Go.Proofs.YtdfeloeainabjaaDoor
