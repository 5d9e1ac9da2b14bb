/- Parts: RgA. -/
import Derived.Test.YtflidfmpmakggaaGreatDoorMg17
import Derived.Test.YtflidfmpmakggaaGreatDoorMg20
import Derived.Test.YtflidfmpmakggaaGreatDoorMg11
import Derived.Deep.DeepCutAuto
/- Contract of the reference: kinref2.ReadGraph: a text as a graph. Condition: the text is not too long. -/
namespace Go.Proofs.YtflidfmpmakggaaGreatDoor
open Go Go.RowKit


theorem nod_some {rest a k y : List UInt8} {p q : Bool} (h : readNodL rest = if p = true ∧ q = true ∧ k ≠ [] ∧ readRE y = 0 then (numL a 4).map (fun (n : Nat) => (⟨(n : Int), bs k, readRV y⟩ : Nod)) else none) :
    (readNodL rest).isSome = (p && q && (numL a 4).isSome && decide (readRE y = 0) && decide (k ≠ [])) ∧ ∀ nd, readNodL rest = some nd → ∃ n, numL a 4 = some n ∧ nd = ⟨(n : Int), bs k, readRV y⟩ := by
  constructor
  · rw [h]
    cases p with
    | false => simp
    | true =>
      cases q with
      | false => simp
      | true =>
        by_cases h1 : k = []
        · simp [h1]
        · by_cases h2 : readRE y = 0
          · simp [h1, h2]
          · simp [h1, h2]
  · intro nd hn
    rw [h] at hn
    split at hn
    · obtain ⟨n, h1, h2⟩ := Option.map_eq_some_iff.1 hn
      exact ⟨n, h1, h2.symm⟩
    · cases hn
theorem tie_three {R a b c : List UInt8} (h : Lib.split R [32] = [a, b, c]) : (readTieL R).isSome = ((numL b 4).isSome && (numL c 4).isSome && decide (a ≠ [])) ∧ ∀ t, readTieL R = some t → ∃ x y, numL b 4 = some x ∧ numL c 4 = some y ∧ t = ⟨bs a, (x : Int), (y : Int)⟩ := by
  have e : readTieL R = if a = [] then none else match numL b 4, numL c 4 with | some x, some y => some ⟨bs a, x, y⟩ | _, _ => none := by
    unfold readTieL; rw [h]; rfl
  rw [e]
  by_cases h0 : a = []
  · rw [if_pos h0]; simp [h0]
  · rw [if_neg h0]
    cases numL b 4 with
    | none => simp
    | some x =>
      cases numL c 4 with
      | none => simp
      | some y => simp [h0]
theorem tie_none3 {R : List UInt8} (h : (Lib.split R [32]).length ≠ 3) : readTieL R = none := by
  unfold readTieL
  split
  · rename_i a b c hq; rw [hq] at h; simp at h
  · rfl
/-- How a line ends: it is right, and the graph has it; or it is wrong, and the result is told. -/
def RgEnd (w : World) (s : ByteArray) (P : List (List UInt8)) (L : Nat) (A : Value) (k : Nat) (b : Bool) (wx : World) : Prop :=
  (b = false → (readTN s.data.toList = k ∧ readTE s.data.toList = 2 ∧ readTV s.data.toList = ⟨[], []⟩) ∧ Below w.heap.size w wx ∧ wx.heap[w.heap.size]? = some (.cells #[.slice none 0 0, .slice none 0 0] 25 (0, 0))) ∧
  (b = true → Own wx w.heap.size 9 1 A (L + 1) (wv P) ∧ ∃ g An At cn ct xs, Rg w P g An At cn ct xs (k + 1) wx)
theorem rgEnd_bad {w : World} {s : ByteArray} {P : List (List UInt8)} {L : Nat} {A : Value} {k : Nat} {wx : World} (h : readTN s.data.toList = k ∧ readTE s.data.toList = 2 ∧ readTV s.data.toList = ⟨[], []⟩) (hb : Below w.heap.size w wx) (hz : wx.heap[w.heap.size]? = some (.cells #[.slice none 0 0, .slice none 0 0] 25 (0, 0))) : RgEnd w s P L A k false wx :=
  ⟨fun _ => ⟨h, hb, hz⟩, (fun h => by cases h)⟩
theorem rgEnd_ok {w : World} {s : ByteArray} {P : List (List UInt8)} {L : Nat} {A : Value} {k : Nat} {wx : World} {g : Grf} {An At : Option Addr} {cn ct : Nat} {xs : List Value} (h1 : Own wx w.heap.size 9 1 A (L + 1) (wv P)) (h2 : Rg w P g An At cn ct xs (k + 1) wx) : RgEnd w s P L A k true wx :=
  ⟨(fun h => by cases h), fun _ => ⟨h1, _, _, _, _, _, _, h2⟩⟩
set_option maxRecDepth 100000 in
set_option maxHeartbeats 32000000 in
theorem rreadGraph_any (s : ByteArray) (hs : Sm s) (w : World) :
    Calls Tryz.prog 11 #[.string s] w fun e w' => ∃ vn vt, e = .returned (.tuple #[.agg #[vn, vt], .int .i64 (readTN s.data.toList : Nat), .int .i64 (readTE s.data.toList)]) ∧ GrfR w' vn vt (readTV s.data.toList) ∧ Below w.heap.size w w' := by
  obtain ⟨i0, ei, ez, ez1, ez2⟩ := info_parts nod_info3
  obtain ⟨j0, fi, fz, fz1, fz2⟩ := info_parts tie_info3
  have hb0 : Below w.heap.size w ((w.alloc (.cells #[.slice none 0 0, .slice none 0 0] 25)).alloc (.cells #[.slice none 0 0, .slice none 0 0] 25)) := ((Below.refl _ _).alloc (Nat.le_refl _) _).alloc (by simp) _
  have q0 : ((w.alloc (.cells #[.slice none 0 0, .slice none 0 0] 25)).alloc (.cells #[.slice none 0 0, .slice none 0 0] 25)).heap[w.heap.size]? = some (.cells #[.slice none 0 0, .slice none 0 0] 25 (0, 0)) := alloc_up (heap_alloc_new _ _)
  have q1 : ((w.alloc (.cells #[.slice none 0 0, .slice none 0 0] 25)).alloc (.cells #[.slice none 0 0, .slice none 0 0] 25)).heap[w.heap.size + 1]? = some (.cells #[.slice none 0 0, .slice none 0 0] 25 (0, 0)) := heap_at_new _ _ _ (by simp)
  have hx := rcut_any s 10 (by decide) false ((w.alloc (.cells #[.slice none 0 0, .slice none 0 0] 25)).alloc (.cells #[.slice none 0 0, .slice none 0 0] 25)) hs
  rw [rcut_plain (by decide)] at hx
  obtain ⟨R1, R2⟩ := read_rrun s.data.toList
  have HR1 := Lib.hid R1
  have HR2 := Lib.hid R2
  have hle := len_size s
  unfold Sm at hs
  obtain ⟨s1, s2⟩ := split_len 10 _ s.data.toList (Nat.le_refl _)
  have HPL : Hid (∀ x ∈ Lib.split s.data.toList [10], x.length ≤ 1048576) := fun x hx => by have := s1 x hx; omega
  have hPn := split_ne 10 s.data.toList
  generalize Lib.split s.data.toList [10] = P at *
  obtain ⟨L, hL⟩ : ∃ L, P.length = L + 1 := ⟨P.length - 1, by
    have : P.length ≠ 0 := fun h => hPn (List.length_eq_zero_iff.1 h)
    omega⟩
  have hLb : L ≤ 1048577 := by omega
  have HL := Lib.hid hL
  clear R1 R2 hle s1 s2 hPn
  rw [show (Value.int .u8 ((10 : UInt8).toNat : Int)) = .int .u8 10 from rfl] at hx
  go_enter Tryz.func11, Tryz.ntmps11
  go_upto_region 2 with fail
  generalize (w.alloc (.cells #[.slice none 0 0, .slice none 0 0] 25)).alloc (.cells #[.slice none 0 0, .slice none 0 0] 25) = W0 at *
  go_wp2_with fail
  refine hx.mono ?_
  clear hx
  rintro e w1 ⟨A1, c1, rfl, how, hb1⟩
  have HOWN := Lib.hid (how.mono hb0.size)
  have HRG : Hid (Rg w P ⟨[], []⟩ none none 0 0 [] 0 w1) := by
    refine Rg.below (W := W0) ⟨q0, q1, Own.nil _ _ _ _, rfl, Own.nil _ _ _ _, fun _ h => by (cases h), by rw [List.drop_zero], by simp, hb0⟩ hb1
  clear how q0 q1 hb0 hb1
  rw [hL]
  rw [hL] at HOWN
  clear hL
  go_wp2_with fail
  go_loopw [8] (fun i wr => ∃ (k : Nat) (g : Grf) (An At : Option Addr) (cn ct : Nat) (xs : List Value), k ≤ L ∧ i = .int .i64 k ∧ Hid (Own wr w.heap.size 9 1 (.slice A1 (L + 1) c1) (L + 1) (wv P)) ∧ Hid (Rg w P g An At cn ct xs k wr)) (fun i _ => L - (intOf i).toNat)
  case atStart => exact ⟨0, ⟨[], []⟩, none, none, 0, 0, [], Nat.zero_le _, rfl, HOWN, HRG⟩
  case round =>
    clear HRG HOWN
    obtain ⟨k, g, An, At, cn, ct, xs, hk, rfl, HOWN, HRG⟩ := hrel
    obtain ⟨wo, hwo⟩ : ∃ x : World, x = wr := ⟨_, rfl⟩
    subst hwo
    have hln := HRG.out.len
    by_cases hlt : k < L
    · obtain ⟨x, hx⟩ : ∃ x, P[k]? = some x := ⟨_, List.getElem?_eq_getElem (by have := HL.out; omega)⟩
      have hlt' : (k : Int) < (L : Int) := by omega
      have hlt2 : (k : Int) < (L : Int) + 1 := by omega
      have hsl := own_words (w := wo) (B := w.heap.size) (v := .slice A1 (L + 1) c1) (xs := P) (by rw [HL.out]; exact HOWN.out) HPL.out
      obtain ⟨gb, o, rfl, hxs, c0⟩ := str_at hsl (d := bs x) (by rw [List.getElem?_map, hx]; rfl)
      clear hsl
      have hcall := rword_any (bs x) hxs wo
      rw [bs_list] at hcall
      obtain ⟨m1, m2⟩ := rrun_more (g := g) (n := k) hx (by have := HL.out; omega)
      have HM1 : Hid (lineT g (x ++ [10]) = none → rrun ⟨[], []⟩ 0 P = .error k) := fun h => by rw [HRG.out.run]; exact m1 h
      have HM2 : Hid (∀ g', lineT g (x ++ [10]) = some g' → rrun ⟨[], []⟩ 0 P = rrun g' (k + 1) (P.drop (k + 1))) := fun g' h => by rw [HRG.out.run]; exact m2 g' h
      obtain ⟨l1, l2⟩ := cut_lens 32 x
      have hxl : x.length ≤ 1048576 := HPL.out x (List.mem_of_getElem? hx)
      obtain ⟨K, R, f, hct⟩ : ∃ K R f, Lib.cut x [32] = (K, R, f) := ⟨_, _, _, rfl⟩
      have HLT := Lib.hid (lineT_at (g := g) hct)
      have HCF : Hid (f = false → R = []) := fun h => cut_false (x := x) (K := K) (by rw [hct, h])
      rw [hct] at hcall l1 l2
      have hRl : R.length ≤ 1048576 := by have : R.length ≤ x.length := l2; omega
      have e1 : (bs nodeW).toList = [110, 111, 100, 101] := by decide +kernel
      have e2 : (bs tieW).toList = [116, 105, 101] := by decide +kernel
      have n1 := bs_lit (K := K) e1
      have n2 := bs_lit (K := K) e2
      clear m1 m2 l1 l2 hct hx hxs e1 e2 hxl
      go_wp2_with fail
      refine hcall.mono ?_
      clear hcall c0
      rintro e w2 ⟨rfl, hb2⟩
      have HRG := Lib.hid (HRG.out.below hb2)
      have HOWN := Lib.hid (HOWN.out.below hb2)
      clear hb2
      have HG1 := Lib.hid (block_cell HRG.out.gb 1)
      go_upto_region 9 with fail
      go_cut [58] (fun v wx => v = .bool (decide (K = nodeW ∧ f = true ∧ g.ties.length = 0)) ∧ wx = w2)
      case first =>
        -- of what is to be done behind only the innermost is kept
        rename ∀ (a : Act) (w : World), Code.wp _ _ _ a w → _ => hkeep
        revert hkeep
        repeat (rename ∀ (a : Act) (w : World), Code.wp _ _ _ a w → _ => hz; clear hz)
        intro hkeep
        have g1 := HG1.out
        by_cases h1 : K = nodeW
        · have b1 : (bs K).toList = [110, 111, 100, 101] := by rw [n1]; exact h1
          have b1' : ((bs K).toList == [110, 111, 100, 101]) = true := by rw [b1]; rfl
          cases f with
          | false =>
            have HD : Hid (decide (K = nodeW ∧ false = true ∧ g.ties.length = 0) = false) := decide_eq_false (by simp)
            clear h1 n1 n2
            go_wp2_with fail
            go_meet
            exact ⟨by rw [HD.out], rfl⟩
          | true =>
            by_cases h0 : g.ties.length = 0
            · have h0b : ((g.ties.length : Int) == 0) = true := by rw [h0]; rfl
              have HD : Hid (decide (K = nodeW ∧ true = true ∧ g.ties.length = 0) = true) := decide_eq_true ⟨h1, rfl, h0⟩
              clear h1 n1 n2 h0
              go_wp2_with fail
              go_meet
              exact ⟨by rw [HD.out], rfl⟩
            · have h0b : ((g.ties.length : Int) == 0) = false := by rw [beq_eq_false_iff_ne]; omega
              have HD : Hid (decide (K = nodeW ∧ true = true ∧ g.ties.length = 0) = false) := decide_eq_false (fun h => h0 h.2.2)
              clear h1 n1 n2 h0
              go_wp2_with fail
              go_meet
              exact ⟨by rw [HD.out], rfl⟩
        · have b1 : ¬ (bs K).toList = [110, 111, 100, 101] := by rw [n1]; exact h1
          have b1' : ((bs K).toList == [110, 111, 100, 101]) = false := beq_eq_false_iff_ne.2 b1
          have HD : Hid (decide (K = nodeW ∧ f = true ∧ g.ties.length = 0) = false) := decide_eq_false (fun h => h1 h.1)
          clear h1 n1 n2
          go_wp2_with fail
          go_meet
          exact ⟨by rw [HD.out], rfl⟩
      case rest =>
      obtain ⟨rfl, hw⟩ := hcut
      subst hw
      obtain ⟨w2, hw2⟩ : ∃ x : World, x = wc := ⟨_, rfl⟩
      subst hw2
      go_upto_if 58 with fail
      go_cut [12] (fun v wx => ∃ b : Bool, v = .bool b ∧ Hid (RgEnd w s P L (.slice (some ⟨gb, o, none⟩) (L + 1) c1) k b wx))
      case first =>
        -- of what is to be done behind only the innermost is kept
        rename ∀ (a : Act) (w : World), Code.wp _ _ _ a w → _ => hkeep
        revert hkeep
        repeat (rename ∀ (a : Act) (w : World), Code.wp _ _ _ a w → _ => hz; clear hz)
        intro hkeep
        by_cases hkn : K = nodeW ∧ f = true ∧ g.ties.length = 0
        · rw [decide_eq_true hkn]
          obtain ⟨rfl, rfl, h0⟩ := hkn
          have b1 : (bs nodeW).toList = [110, 111, 100, 101] := by rw [n1]
          have b1' : ((bs nodeW).toList == [110, 111, 100, 101]) = true := by rw [b1]; rfl
          have h0b : ((g.ties.length : Int) == 0) = true := by rw [h0]; rfl
          have HLN : Hid (lineT g (x ++ [10]) = (readNodL R).map (fun n => (⟨g.nodes ++ [n], g.ties⟩ : Grf))) := by unfold Hid; rw [HLT.out, if_pos ⟨rfl, h0⟩]
          obtain ⟨a, x2, p, hc1⟩ : ∃ a x2 p, Lib.cut R [32] = (a, x2, p) := ⟨_, _, _, rfl⟩
          obtain ⟨kd, y, q, hc2⟩ : ∃ a' x' p', Lib.cut x2 [32] = (a', x', p') := ⟨_, _, _, rfl⟩
          obtain ⟨u1, u2⟩ := cut_lens 32 R
          obtain ⟨u3, u4⟩ := cut_lens 32 x2
          obtain ⟨o1, o2⟩ := nod_some (nod_cut hc1 hc2)
          have HO1 := Lib.hid o1
          have HO2 := Lib.hid o2
          have hx1 := rword_any (bs R) (by unfold Sm; rw [bs_size]; exact hRl) w2
          rw [bs_list, hc1] at hx1
          rw [hc1] at u1 u2
          rw [hc2] at u3 u4
          have u1 : a.length ≤ R.length := u1
          have u2 : x2.length ≤ R.length := u2
          have u3 : kd.length ≤ x2.length := u3
          have u4 : y.length ≤ x2.length := u4
          have hx2 := fun wx => rword_any (bs x2) (by unfold Sm; rw [bs_size]; omega) wx
          rw [bs_list, hc2] at hx2
          have hx3 := fun wx => rnumber_any (bs a) (by unfold Sm; rw [bs_size]; omega) 4 (by omega) wx
          rw [bs_list] at hx3
          have hx4 := fun wx => rreadRec_any (bs y) (by unfold Sm; rw [bs_size]; omega) wx
          rw [bs_list] at hx4
          have HX2 := Lib.hid hx2
          have HX3 := Lib.hid hx3
          have HX4 := Lib.hid hx4
          have hkl : kd.length ≤ 1048576 := by omega
          have HKD : Hid (Sm (bs kd)) := by unfold Hid Sm; rw [bs_size]; exact hkl
          have HI : Hid (∀ u, numL a 4 = some u → I64 (u : Int)) := fun u hu => num_i64 (by omega) hu
          have g1 := HG1.out
          clear HLT HCF n1 n2 hkl u1 u2 u3 u4 hc1 hc2 o1 o2 hx2 hx3 hx4
          go_wp2_with fail
          refine hx1.mono ?_
          clear hx1 g1 HG1
          rintro e w3 ⟨rfl, hb⟩
          have HRG := Lib.hid (HRG.out.below hb)
          have HOWN := Lib.hid (HOWN.out.below hb)
          clear hb
          have hx := HX2.out w3
          clear HX2
          go_wp2_with fail
          refine hx.mono ?_
          clear hx
          rintro e w4 ⟨rfl, hb⟩
          have HRG := Lib.hid (HRG.out.below hb)
          have HOWN := Lib.hid (HOWN.out.below hb)
          clear hb
          have hx := HX3.out w4
          clear HX3
          generalize numL a 4 = N4 at *
          obtain ⟨is4, his4⟩ : ∃ b, b = N4.isSome := ⟨_, rfl⟩
          rw [← his4] at hx HO1
          clear his4
          go_wp2_with fail
          refine hx.mono ?_
          clear hx
          rintro e wn ⟨n, rfl, hn1, _, hw⟩
          subst hw
          have HN1 := Lib.hid hn1
          have hx := HX4.out wn
          clear HX4 hn1
          generalize readRE y = re at *
          generalize readRV y = rv at *
          go_wp2_with fail
          refine hx.mono ?_
          clear hx
          rintro e w5 ⟨Ar, kr, rfl, hown, hb⟩
          have HOP := Lib.hid hown
          have hszn : w.heap.size ≤ wn.heap.size := HRG.out.bel.size
          have HRG := Lib.hid (HRG.out.below hb)
          have HOWN := Lib.hid (HOWN.out.below hb)
          clear hb hown
          go_upto_region 14 with fail
          go_cut [12] (fun v wx => v = .bool (readNodL R).isSome ∧ wx = w5)
          case first =>
            -- of what is to be done behind only the innermost is kept
            rename ∀ (a : Act) (w : World), Code.wp _ _ _ a w → _ => hkeep
            revert hkeep
            repeat (rename ∀ (a : Act) (w : World), Code.wp _ _ _ a w → _ => hz; clear hz)
            intro hkeep
            have hkb : ((bs kd).toList = []) = (kd = []) := str_nil
            cases p with
            | false =>
              have HB : Hid ((readNodL R).isSome = false) := by unfold Hid; rw [HO1.out]; rfl
              go_wp2_with fail
              go_meet
              exact ⟨by rw [HB.out], rfl⟩
            | true =>
            cases q with
            | false =>
              have HB : Hid ((readNodL R).isSome = false) := by unfold Hid; rw [HO1.out]; rfl
              go_wp2_with fail
              go_meet
              exact ⟨by rw [HB.out], rfl⟩
            | true =>
            cases is4 with
            | false =>
              have HB : Hid ((readNodL R).isSome = false) := by unfold Hid; rw [HO1.out]; rfl
              go_wp2_with fail
              go_meet
              exact ⟨by rw [HB.out], rfl⟩
            | true =>
            by_cases hre : re = 0
            case neg =>
              have HB : Hid ((readNodL R).isSome = false) := by unfold Hid; rw [HO1.out, decide_eq_false hre]; rfl
              have hreb : (re == 0) = false := by simpa using hre
              clear hre
              go_wp2_with fail
              go_meet
              exact ⟨by rw [HB.out], rfl⟩
            have hreb : (re == 0) = true := by simpa using hre
            by_cases hkd : kd = []
            · have HB : Hid ((readNodL R).isSome = false) := by unfold Hid; rw [HO1.out, hkd]; simp
              have c1 : (bs kd).toList = [] := by rw [hkb]; exact hkd
              have c2 : ((bs kd).toList == []) = true := by rw [c1]; rfl
              have c3 : ((bs kd).toList != []) = false := by rw [c1]; rfl
              have c4 : (bs kd).toList.isEmpty = true := by rw [c1]; rfl
              clear hre hkd hkb
              go_wp2_with fail
              go_meet
              exact ⟨by rw [HB.out], rfl⟩
            · have HB : Hid ((readNodL R).isSome = true) := by unfold Hid; rw [HO1.out, decide_eq_true hre, decide_eq_true hkd]; rfl
              have c1 : ¬ (bs kd).toList = [] := by rw [hkb]; exact hkd
              have c2 : ((bs kd).toList == []) = false := beq_eq_false_iff_ne.2 c1
              have c3 : ((bs kd).toList != []) = true := bne_iff_ne.2 c1
              have c4 : (bs kd).toList.isEmpty = false := List.isEmpty_eq_false_iff.2 c1
              clear hre hkd hkb
              go_wp2_with fail
              go_meet
              exact ⟨by rw [HB.out], rfl⟩
          case rest =>
          obtain ⟨rfl, hw⟩ := hcut
          subst hw
          obtain ⟨w5, hw5⟩ : ∃ x : World, x = wc := ⟨_, rfl⟩
          subst hw5
          obtain ⟨rl, hrl⟩ : ∃ r, rv.length = r := ⟨_, rfl⟩
          have HRVL := Lib.hid hrl
          rw [hrl]
          clear hrl HO1
          cases hnd : readNodL R with
          | none =>
            have HBAD : Hid (readTN s.data.toList = k ∧ readTE s.data.toList = 2 ∧ readTV s.data.toList = ⟨[], []⟩) := by
              obtain ⟨t1, t2, t3⟩ := HR1.out k (HM1.out (by rw [HLN.out, hnd]; rfl))
              exact ⟨t2, t1, t3⟩
            rw [show (none : Option Nod).isSome = false from rfl]
            clear HM1 HM2 HLN hnd HO2
            -- a node is appended: its number n, its kind bs kd, its record's slice
            have hl2 : rv.length = rl := HRVL.out
            have haz : Below w5.heap.size w5 (w5.alloc (.cells #[.int .i64 (n : Int), .string (bs kd), .slice Ar rl kr] 98)) := (Below.refl _ _).alloc (Nat.le_refl _) _
            have HRA : Hid (Rg w P g An At cn ct xs k (w5.alloc (.cells #[.int .i64 (n : Int), .string (bs kd), .slice Ar rl kr] 98))) := HRG.out.below haz
            have HNW := Lib.hid (three_new w5 (.int .i64 (n : Int)) (.string (bs kd)) (.slice Ar rl kr) 98)
            have y0 := block_cell HRG.out.gb 0
            have hnb : g.nodes.length ≤ 1048577 := by omega
            clear haz hl2
            go_wp2_with (first
              | (at_builtin
                 refine wpList_append_q _ rfl (.tmp 97) (.tmp 102) _ rfl w.heap.size 98 i0 (.agg #[.int .i64 0, .string .empty, .slice none 0 0]) 3 48 Tryz.underlying22 ei ez ez1 ez2 rfl (by decide) (.slice An g.nodes.length cn) g.nodes.length xs rfl HRA.out.on (some ⟨w5.heap.size, 0, none⟩) 1 1 [.int .i64 (n : Int), .string (bs kd), .slice Ar rl kr] rfl rfl (fun _ => ⟨_, rfl, fun j u' hj => by rw [addr_add, Nat.zero_add]; exact HNW.out j u' hj⟩) (fun u' hu => by simp at hu; rcases hu with rfl | rfl | rfl <;> rfl) (by unfold maxLen; omega) (by omega) HRA.out.bel.size ?_
                 intro v7 w7 hown7 hg7 hat7
                 obtain ⟨A7, c7, hv7, _, _⟩ := hown7.form
                 subst hv7
                 obtain ⟨bz, bg, bb⟩ := HRA.out.boxes_n hg7
                 have BZ := Lib.hid bz
                 have BG := Lib.hid bg
                 have BB := Lib.hid bb
                 have HG7 := Lib.hid hg7
                 have HO7 := Lib.hid hown7
                 clear y0
                 have y0 := block_cell bg 0
                 have y0f := block_free bg 0
                 clear bz bg bb hg7 hown7 hat7))
            have hbs := BB.out.setCell (p := ⟨w.heap.size + 1, 0, none⟩) (Nat.le_add_right _ _) (.slice A7 (g.nodes.length + 1) c7)
            have hzs := setCell_other BZ.out (Nat.ne_of_lt (Nat.lt_succ_self _)) 0 (.slice A7 (g.nodes.length + 1) c7)
            -- a line is wrong: above w: hbs, the result's box: hzs
            have HNO := Lib.hid (rgEnd_bad (P := P) (L := L) (A := .slice (some ⟨gb, o, none⟩) (L + 1) c1) (k := k) HBAD.out (hbs) (hzs))
            go_wp2_with fail
            go_meet
            exact ⟨false, rfl, HNO⟩
          | some nd =>
            obtain ⟨n', hN', hnd'⟩ := HO2.out nd hnd
            have hnn := HN1.out n' hN'
            have HND := Lib.hid hnd'
            have HNN := Lib.hid hnn
            have HIN := Lib.hid (HI.out n' hN')
            have HRUN : Hid (rrun ⟨[], []⟩ 0 P = rrun ⟨g.nodes ++ [nd], g.ties⟩ (k + 1) (P.drop (k + 1))) := HM2.out _ (by rw [HLN.out, hnd]; rfl)
            rw [show (some nd : Option Nod).isSome = true from rfl]
            clear HM1 HM2 HLN hnd HO2 hnd' hnn hN' HI
            -- a node is appended: its number n, its kind bs kd, its record's slice
            have hl2 : rv.length = rl := HRVL.out
            have haz : Below w5.heap.size w5 (w5.alloc (.cells #[.int .i64 (n : Int), .string (bs kd), .slice Ar rl kr] 98)) := (Below.refl _ _).alloc (Nat.le_refl _) _
            have HRA : Hid (Rg w P g An At cn ct xs k (w5.alloc (.cells #[.int .i64 (n : Int), .string (bs kd), .slice Ar rl kr] 98))) := HRG.out.below haz
            have HNW := Lib.hid (three_new w5 (.int .i64 (n : Int)) (.string (bs kd)) (.slice Ar rl kr) 98)
            have y0 := block_cell HRG.out.gb 0
            have hnb : g.nodes.length ≤ 1048577 := by omega
            clear haz hl2
            go_wp2_with (first
              | (at_builtin
                 refine wpList_append_q _ rfl (.tmp 97) (.tmp 102) _ rfl w.heap.size 98 i0 (.agg #[.int .i64 0, .string .empty, .slice none 0 0]) 3 48 Tryz.underlying22 ei ez ez1 ez2 rfl (by decide) (.slice An g.nodes.length cn) g.nodes.length xs rfl HRA.out.on (some ⟨w5.heap.size, 0, none⟩) 1 1 [.int .i64 (n : Int), .string (bs kd), .slice Ar rl kr] rfl rfl (fun _ => ⟨_, rfl, fun j u' hj => by rw [addr_add, Nat.zero_add]; exact HNW.out j u' hj⟩) (fun u' hu => by simp at hu; rcases hu with rfl | rfl | rfl <;> rfl) (by unfold maxLen; omega) (by omega) HRA.out.bel.size ?_
                 intro v7 w7 hown7 hg7 hat7
                 obtain ⟨A7, c7, hv7, _, _⟩ := hown7.form
                 subst hv7
                 obtain ⟨bz, bg, bb⟩ := HRA.out.boxes_n hg7
                 have BZ := Lib.hid bz
                 have BG := Lib.hid bg
                 have BB := Lib.hid bb
                 have HG7 := Lib.hid hg7
                 have HO7 := Lib.hid hown7
                 clear y0
                 have y0 := block_cell bg 0
                 have y0f := block_free bg 0
                 clear bz bg bb hg7 hown7 hat7))
            have HNEW : Hid (∃ As cs ys, Rg w P ⟨g.nodes ++ [nd], g.ties⟩ As At cs ct ys (k + 1) (w7.setCell ⟨w.heap.size + 1, 0, none⟩ (.slice A7 (g.nodes.length + 1) c7))) := by
              have e1 : nd.id = (n : Int) := by rw [HND.out, HNN.out]
              have e2 : nd.kind = bs kd := by rw [HND.out]
              have e3 : nd.props = rv := by rw [HND.out]
              refine ⟨_, _, _, Rg.node HRA.out (d := nd) (u := .slice Ar rl kr) HG7.out (by rw [e1, e2]; exact HO7.out) (by rw [HND.out]; exact HIN.out) (by rw [e2]; exact HKD.out) (by rw [e3]; exact HOP.out.2) ?_ HRUN.out⟩
              rw [e3]
              have h := (HOP.out.1.mono hszn).alloc (.cells #[.int .i64 (n : Int), .string (bs kd), .slice Ar rl kr] 98)
              rw [HRVL.out] at h
              rw [HRVL.out]; exact h
            have HBN : Hid (Own (w7.setCell ⟨w.heap.size + 1, 0, none⟩ (.slice A7 (g.nodes.length + 1) c7)) w.heap.size 9 1 (.slice (some ⟨gb, o, none⟩) (L + 1) c1) (L + 1) (wv P)) :=
              ((HOWN.out.alloc (.cells #[.int .i64 (n : Int), .string (bs kd), .slice Ar rl kr] 98)).same (.grown HRA.out.on (by decide) HG7.out)).same (.setCell (p := ⟨w.heap.size + 1, 0, none⟩) BG.out (by decide) _)
            have HYES : Hid (RgEnd w s P L (.slice (some ⟨gb, o, none⟩) (L + 1) c1) k true (w7.setCell ⟨w.heap.size + 1, 0, none⟩ (.slice A7 (g.nodes.length + 1) c7))) := by
              obtain ⟨As, cs, ys, hnew⟩ := HNEW.out
              exact rgEnd_ok HBN.out hnew
            go_wp2_with fail
            go_meet
            exact ⟨true, rfl, HYES⟩
        · rw [decide_eq_false hkn]
          by_cases hkt : K = tieW ∧ f = true
          · obtain ⟨rfl, rfl⟩ := hkt
            have b1 : ¬ (bs tieW).toList = [110, 111, 100, 101] := by rw [n1]; decide
            have b1' : ((bs tieW).toList == [110, 111, 100, 101]) = false := beq_eq_false_iff_ne.2 b1
            have b2 : (bs tieW).toList = [116, 105, 101] := by rw [n2]
            have b2' : ((bs tieW).toList == [116, 105, 101]) = true := by rw [b2]; rfl
            have HLN : Hid (lineT g (x ++ [10]) = (readTieL R).map (fun t => (⟨g.nodes, g.ties ++ [t]⟩ : Grf))) := by
              unfold Hid; rw [HLT.out, if_neg (fun h => absurd h.1 (by decide)), if_pos rfl]
            have hx := rcut_any (bs R) 32 (by decide) false w2 (by unfold Sm; rw [bs_size]; exact hRl)
            rw [rcut_plain (by decide), bs_list, show (Value.int .u8 ((32 : UInt8).toNat : Int)) = .int .u8 32 from rfl] at hx
            obtain ⟨u1, u2⟩ := split_len 32 _ R (Nat.le_refl _)
            have HT3 := Lib.hid (fun a b c (h : Lib.split R [32] = [a, b, c]) => tie_three h)
            have HTN := Lib.hid (fun (h : (Lib.split R [32]).length ≠ 3) => tie_none3 h)
            have HPL2 : Hid (∀ x ∈ Lib.split R [32], x.length ≤ 1048576) := fun x hx => by have := u1 x hx; omega
            have hpl2 : (Lib.split R [32]).length ≤ 1048577 := by omega
            generalize Lib.split R [32] = P2 at *
            have g1 := HG1.out
            clear HLT HCF n1 n2 u1 u2 hkn
            go_wp2_with fail
            refine hx.mono ?_
            clear hx g1 HG1
            rintro e w3 ⟨A3, c3, rfl, how2, hb⟩
            have HRG := Lib.hid (HRG.out.below hb)
            have HOWN := Lib.hid (HOWN.out.below hb)
            have HW2 := Lib.hid how2
            clear hb how2
            by_cases h3 : P2.length = 3
            case neg =>
              have HBAD : Hid (readTN s.data.toList = k ∧ readTE s.data.toList = 2 ∧ readTV s.data.toList = ⟨[], []⟩) := by
                obtain ⟨t1, t2, t3⟩ := HR1.out k (HM1.out (by rw [HLN.out, HTN.out h3]; rfl))
                exact ⟨t2, t1, t3⟩
              have h3b : ((P2.length : Int) == 3) = false := by rw [beq_eq_false_iff_ne]; omega
              have h3p : ¬ (P2.length : Int) = 3 := by omega
              clear HLN HT3 HTN HM1 HM2 h3
              -- a line is wrong: above w: HRG.out.bel, the result's box: HRG.out.z
              have HNO := Lib.hid (rgEnd_bad (P := P) (L := L) (A := .slice (some ⟨gb, o, none⟩) (L + 1) c1) (k := k) HBAD.out (HRG.out.bel) (HRG.out.z))
              go_wp2_with fail
              go_meet
              exact ⟨false, rfl, HNO⟩
            obtain ⟨a, b, c, rfl⟩ := three_parts (P := P2) (by omega) (by omega)
            obtain ⟨o1, o2⟩ := HT3.out a b c rfl
            have HO1 := Lib.hid o1
            have HO2 := Lib.hid o2
            have ha := HPL2.out a (by simp)
            have hbl := HPL2.out b (by simp)
            have hcl := HPL2.out c (by simp)
            have hsl2 := own_words HW2.out HPL2.out
            obtain ⟨gb2, oo2, hA, _, c0⟩ := str_at (k := 0) hsl2 (d := bs a) rfl
            subst hA
            obtain ⟨gb3, oo3, hA, _, c1'⟩ := str_at (k := 1) hsl2 (d := bs b) rfl
            injection hA with hA
            injection hA with e1 e2
            subst e1
            subst e2
            obtain ⟨gb4, oo4, hA, _, c2'⟩ := str_at (k := 2) hsl2 (d := bs c) rfl
            injection hA with hA
            injection hA with e1 e2
            subst e1
            subst e2
            rw [Nat.add_zero] at c0
            rw [show ([a, b, c] : List (List UInt8)).length = 3 from rfl]
            have hx := rnumber_any (bs b) (by unfold Sm; rw [bs_size]; exact hbl) 4 (by omega) w3
            have hx2 := rnumber_any (bs c) (by unfold Sm; rw [bs_size]; exact hcl) 4 (by omega) w3
            rw [bs_list] at hx hx2
            have HIB : Hid (∀ u, numL b 4 = some u → I64 (u : Int)) := fun u hu => num_i64 (by omega) hu
            have HIC : Hid (∀ u, numL c 4 = some u → I64 (u : Int)) := fun u hu => num_i64 (by omega) hu
            have HSA : Hid (Sm (bs a)) := by unfold Hid Sm; rw [bs_size]; exact ha
            generalize numL b 4 = NB at *
            generalize numL c 4 = NC at *
            obtain ⟨isb, hib⟩ : ∃ q, q = NB.isSome := ⟨_, rfl⟩
            obtain ⟨isc, hic⟩ : ∃ q, q = NC.isSome := ⟨_, rfl⟩
            rw [← hib] at hx HO1
            rw [← hic] at hx2 HO1
            clear hib hic HT3 HTN HPL2 hpl2 h3 o1 o2 ha hbl hcl hsl2 HW2
            go_wp2_with fail
            refine hx.mono ?_
            clear hx
            rintro e w9 ⟨nb, rfl, hnb, _, hw⟩
            subst hw
            have HNB := Lib.hid hnb
            clear hnb
            go_wp2_with fail
            refine hx2.mono ?_
            clear hx2
            rintro e w9' ⟨nc, rfl, hnc, _, hw⟩
            subst hw
            have HNC := Lib.hid hnc
            clear hnc
            go_upto_region 21 with fail
            go_cut [12] (fun v wx => v = .bool (readTieL R).isSome ∧ wx = w9')
            case first =>
              -- of what is to be done behind only the innermost is kept
              rename ∀ (a : Act) (w : World), Code.wp _ _ _ a w → _ => hkeep
              revert hkeep
              repeat (rename ∀ (a : Act) (w : World), Code.wp _ _ _ a w → _ => hz; clear hz)
              intro hkeep
              have hkb : ((bs a).toList = []) = (a = []) := str_nil
              cases isb with
              | false =>
                have HB : Hid ((readTieL R).isSome = false) := by unfold Hid; rw [HO1.out]; rfl
                go_wp2_with fail
                go_meet
                exact ⟨by rw [HB.out], rfl⟩
              | true =>
              cases isc with
              | false =>
                have HB : Hid ((readTieL R).isSome = false) := by unfold Hid; rw [HO1.out]; rfl
                go_wp2_with fail
                go_meet
                exact ⟨by rw [HB.out], rfl⟩
              | true =>
              by_cases hkd : a = []
              · have HB : Hid ((readTieL R).isSome = false) := by unfold Hid; rw [HO1.out, hkd]; rfl
                have d1 : (bs a).toList = [] := by rw [hkb]; exact hkd
                have d2 : ((bs a).toList == []) = true := by rw [d1]; rfl
                have d3 : ((bs a).toList != []) = false := by rw [d1]; rfl
                have d4 : (bs a).toList.isEmpty = true := by rw [d1]; rfl
                clear hkd hkb
                go_wp2_with fail
                go_meet
                exact ⟨by rw [HB.out], rfl⟩
              · have HB : Hid ((readTieL R).isSome = true) := by unfold Hid; rw [HO1.out, decide_eq_true hkd]; rfl
                have d1 : ¬ (bs a).toList = [] := by rw [hkb]; exact hkd
                have d2 : ((bs a).toList == []) = false := beq_eq_false_iff_ne.2 d1
                have d3 : ((bs a).toList != []) = true := bne_iff_ne.2 d1
                have d4 : (bs a).toList.isEmpty = false := List.isEmpty_eq_false_iff.2 d1
                clear hkd hkb
                go_wp2_with fail
                go_meet
                exact ⟨by rw [HB.out], rfl⟩
            case rest =>
            obtain ⟨rfl, hw⟩ := hcut
            obtain ⟨w5, hw5⟩ : ∃ x : World, x = wc := ⟨_, rfl⟩
            subst hw5
            rw [← hw] at HRG HOWN c0
            clear hw c1' c2'
            cases hnd : readTieL R with
            | none =>
              have HBAD : Hid (readTN s.data.toList = k ∧ readTE s.data.toList = 2 ∧ readTV s.data.toList = ⟨[], []⟩) := by
                obtain ⟨t1, t2, t3⟩ := HR1.out k (HM1.out (by rw [HLN.out, hnd]; rfl))
                exact ⟨t2, t1, t3⟩
              rw [show (none : Option Tie).isSome = false from rfl]
              clear HM1 HM2 HLN hnd HO1 HO2
              -- a tie is appended: bs a, nb, nc
              have HRA : Hid (Rg w P g An At cn ct xs k (w5.alloc (.cells #[.string (bs a), .int .i64 (nb : Int), .int .i64 (nc : Int)] 102)).drew) := HRG.out.below ((Below.refl _ _).alloc (Nat.le_refl _) _).drew
              have HNW : Hid (∀ j u', ([.string (bs a), .int .i64 (nb : Int), .int .i64 (nc : Int)] : List Value)[j]? = some u' → (w5.alloc (.cells #[.string (bs a), .int .i64 (nb : Int), .int .i64 (nc : Int)] 102)).drew.cell? ⟨w5.heap.size, j, none⟩ = some u') := fun j u' hj => by
                show (w5.alloc (.cells #[.string (bs a), .int .i64 (nb : Int), .int .i64 (nc : Int)] 102)).cell? ⟨w5.heap.size, j, none⟩ = some u'
                rw [World.cell?_alloc_at _ _ _ _ rfl]; simpa using hj
              have y1 := block_cell HRG.out.gb 1
              have hnb : g.ties.length ≤ 1048577 := by omega
              have hal : Below w5.heap.size w5 (w5.alloc (.cells #[.string (bs a), .int .i64 (nb : Int), .int .i64 (nc : Int)] 102)) := (Below.refl _ _).alloc (Nat.le_refl _) _
              have y1a := cell_below hal y1
              clear hal
              go_upto_region 22 with fail
              go_region_law
                (first
                  | (refine step_here rfl ?_
                     refine wp_append_q _ (.tmp 140) (.tmp 147) _ rfl w.heap.size 102 j0 (.agg #[.string .empty, .int .i64 0, .int .i64 0]) 3 32 Tryz.underlying23 fi fz fz1 fz2 rfl (by decide) (.slice At g.ties.length ct) g.ties.length (g.ties.flatMap Tie.enc) rfl HRA.out.ot (some ⟨w5.heap.size, 0, none⟩) 1 1 [.string (bs a), .int .i64 (nb : Int), .int .i64 (nc : Int)] rfl rfl (fun _ => ⟨_, rfl, fun j u' hj => by rw [addr_add, Nat.zero_add]; exact HNW.out j u' hj⟩) (fun u' hu => by simp at hu; rcases hu with rfl | rfl | rfl <;> rfl) (by unfold maxLen; omega) (by omega) HRA.out.bel.size ?_
                     intro v7 w7 hown7 hg7 hat7
                     obtain ⟨A7, c7, hv7, _, _⟩ := hown7.form
                     subst hv7
                     obtain ⟨bz, bg, bb⟩ := HRA.out.boxes_t hg7
                     have BZ := Lib.hid bz
                     have BG := Lib.hid bg
                     have BB := Lib.hid bb
                     have HG7 := Lib.hid hg7
                     have HO7 := Lib.hid hown7
                     have y1 := block_cell bg 1
                     have y1f := block_free bg 1
                     clear bz bg bb hg7 hown7 hat7))
              all_goals
                have hbs := BB.out.setCell (p := ⟨w.heap.size + 1, 1, none⟩) (Nat.le_add_right _ _) (.slice A7 (g.ties.length + 1) c7)
                have hzs := setCell_other BZ.out (Nat.ne_of_lt (Nat.lt_succ_self _)) 1 (.slice A7 (g.ties.length + 1) c7)
                -- a line is wrong: above w: hbs, the result's box: hzs
                have HNO := Lib.hid (rgEnd_bad (P := P) (L := L) (A := .slice (some ⟨gb, o, none⟩) (L + 1) c1) (k := k) HBAD.out (hbs) (hzs))
                go_wp2_with fail
                go_meet
                exact ⟨false, rfl, HNO⟩
            | some nd =>
              obtain ⟨x', y', hB', hC', hnd'⟩ := HO2.out nd hnd
              have hnn := HNB.out x' hB'
              have hnm := HNC.out y' hC'
              have HND := Lib.hid hnd'
              have HNN := Lib.hid (And.intro hnn hnm)
              have HIN := Lib.hid (And.intro (HIB.out x' hB') (HIC.out y' hC'))
              have HRUN : Hid (rrun ⟨[], []⟩ 0 P = rrun ⟨g.nodes, g.ties ++ [nd]⟩ (k + 1) (P.drop (k + 1))) := HM2.out _ (by rw [HLN.out, hnd]; rfl)
              rw [show (some nd : Option Tie).isSome = true from rfl]
              clear HM1 HM2 HLN hnd HO1 HO2 hnd' hnn hnm hB' hC' HIB HIC
              -- a tie is appended: bs a, nb, nc
              have HRA : Hid (Rg w P g An At cn ct xs k (w5.alloc (.cells #[.string (bs a), .int .i64 (nb : Int), .int .i64 (nc : Int)] 102)).drew) := HRG.out.below ((Below.refl _ _).alloc (Nat.le_refl _) _).drew
              have HNW : Hid (∀ j u', ([.string (bs a), .int .i64 (nb : Int), .int .i64 (nc : Int)] : List Value)[j]? = some u' → (w5.alloc (.cells #[.string (bs a), .int .i64 (nb : Int), .int .i64 (nc : Int)] 102)).drew.cell? ⟨w5.heap.size, j, none⟩ = some u') := fun j u' hj => by
                show (w5.alloc (.cells #[.string (bs a), .int .i64 (nb : Int), .int .i64 (nc : Int)] 102)).cell? ⟨w5.heap.size, j, none⟩ = some u'
                rw [World.cell?_alloc_at _ _ _ _ rfl]; simpa using hj
              have y1 := block_cell HRG.out.gb 1
              have hnb : g.ties.length ≤ 1048577 := by omega
              have hal : Below w5.heap.size w5 (w5.alloc (.cells #[.string (bs a), .int .i64 (nb : Int), .int .i64 (nc : Int)] 102)) := (Below.refl _ _).alloc (Nat.le_refl _) _
              have y1a := cell_below hal y1
              clear hal
              go_upto_region 22 with fail
              go_region_law
                (first
                  | (refine step_here rfl ?_
                     refine wp_append_q _ (.tmp 140) (.tmp 147) _ rfl w.heap.size 102 j0 (.agg #[.string .empty, .int .i64 0, .int .i64 0]) 3 32 Tryz.underlying23 fi fz fz1 fz2 rfl (by decide) (.slice At g.ties.length ct) g.ties.length (g.ties.flatMap Tie.enc) rfl HRA.out.ot (some ⟨w5.heap.size, 0, none⟩) 1 1 [.string (bs a), .int .i64 (nb : Int), .int .i64 (nc : Int)] rfl rfl (fun _ => ⟨_, rfl, fun j u' hj => by rw [addr_add, Nat.zero_add]; exact HNW.out j u' hj⟩) (fun u' hu => by simp at hu; rcases hu with rfl | rfl | rfl <;> rfl) (by unfold maxLen; omega) (by omega) HRA.out.bel.size ?_
                     intro v7 w7 hown7 hg7 hat7
                     obtain ⟨A7, c7, hv7, _, _⟩ := hown7.form
                     subst hv7
                     obtain ⟨bz, bg, bb⟩ := HRA.out.boxes_t hg7
                     have BZ := Lib.hid bz
                     have BG := Lib.hid bg
                     have BB := Lib.hid bb
                     have HG7 := Lib.hid hg7
                     have HO7 := Lib.hid hown7
                     have y1 := block_cell bg 1
                     have y1f := block_free bg 1
                     clear bz bg bb hg7 hown7 hat7))
              all_goals
                have HNEW : Hid (Rg w P ⟨g.nodes, g.ties ++ [nd]⟩ An A7 cn c7 xs (k + 1) (w7.setCell ⟨w.heap.size + 1, 1, none⟩ (.slice A7 (g.ties.length + 1) c7))) := by
                  have e1 : Tie.enc nd = [.string (bs a), .int .i64 (nb : Int), .int .i64 (nc : Int)] := by rw [HND.out, HNN.out.1, HNN.out.2]; rfl
                  exact Rg.tie HRA.out (d := nd) HG7.out (by rw [e1]; exact HO7.out) (by rw [HND.out]; exact ⟨HSA.out, HIN.out.1, HIN.out.2⟩) HRUN.out
                have HBN : Hid (Own (w7.setCell ⟨w.heap.size + 1, 1, none⟩ (.slice A7 (g.ties.length + 1) c7)) w.heap.size 9 1 (.slice (some ⟨gb, o, none⟩) (L + 1) c1) (L + 1) (wv P)) :=
                  (((HOWN.out.alloc (.cells #[.string (bs a), .int .i64 (nb : Int), .int .i64 (nc : Int)] 102)).below ((Below.refl _ _).drew)).same (.grown HRA.out.ot (by decide) HG7.out)).same (.setCell (p := ⟨w.heap.size + 1, 1, none⟩) BG.out (by decide) _)
                have HYES := Lib.hid (rgEnd_ok (s := s) HBN.out HNEW.out)
                go_wp2_with fail
                go_meet
                exact ⟨true, rfl, HYES⟩
          · have HBAD : Hid (readTN s.data.toList = k ∧ readTE s.data.toList = 2 ∧ readTV s.data.toList = ⟨[], []⟩) := by
              have hT : lineT g (x ++ [10]) = none := by
                rw [HLT.out]
                by_cases h1 : K = nodeW ∧ g.ties.length = 0
                · rw [if_pos h1]
                  cases f with
                  | true => exact absurd ⟨h1.1, rfl, h1.2⟩ hkn
                  | false => rw [HCF.out rfl, read_empty.1]; rfl
                · rw [if_neg h1]
                  by_cases h2 : K = tieW
                  · rw [if_pos h2]
                    cases f with
                    | true => exact absurd ⟨h2, rfl⟩ hkt
                    | false => rw [HCF.out rfl, read_empty.2]; rfl
                  · rw [if_neg h2]
              obtain ⟨t1, t2, t3⟩ := HR1.out k (HM1.out hT)
              exact ⟨t2, t1, t3⟩
            by_cases h2 : K = tieW
            · have b2 : (bs K).toList = [116, 105, 101] := by rw [n2]; exact h2
              have b2' : ((bs K).toList == [116, 105, 101]) = true := by rw [b2]; rfl
              have hf : f = false := by cases f with | false => rfl | true => exact absurd ⟨h2, rfl⟩ hkt
              subst hf
              clear HLT HCF HM1 HM2 n1 n2 h2 hkn hkt
              -- a line is wrong: above w: HRG.out.bel, the result's box: HRG.out.z
              have HNO := Lib.hid (rgEnd_bad (P := P) (L := L) (A := .slice (some ⟨gb, o, none⟩) (L + 1) c1) (k := k) HBAD.out (HRG.out.bel) (HRG.out.z))
              go_wp2_with fail
              go_meet
              exact ⟨false, rfl, HNO⟩
            · have b2 : ¬ (bs K).toList = [116, 105, 101] := by rw [n2]; exact h2
              have b2' : ((bs K).toList == [116, 105, 101]) = false := beq_eq_false_iff_ne.2 b2
              clear HLT HCF HM1 HM2 n1 n2 h2 hkn hkt
              -- a line is wrong: above w: HRG.out.bel, the result's box: HRG.out.z
              have HNO := Lib.hid (rgEnd_bad (P := P) (L := L) (A := .slice (some ⟨gb, o, none⟩) (L + 1) c1) (k := k) HBAD.out (HRG.out.bel) (HRG.out.z))
              go_wp2_with fail
              go_meet
              exact ⟨false, rfl, HNO⟩
      case rest =>
      obtain ⟨w5, hw5⟩ : ∃ x : World, x = wc := ⟨_, rfl⟩
      subst hw5
      obtain ⟨b, rfl, HEND⟩ := hcut
      clear HG1 HLT HCF HM1 HM2 HRG HOWN n1 n2
      cases b with
      | false =>
        obtain ⟨hbad, hbb, hzz⟩ := HEND.out.1 rfl
        have HBAD := Lib.hid hbad
        clear hbad HEND
        -- a line is wrong: above w: hbb, the result's box: hzz, the number (k : Int)
        obtain ⟨k1, k2, _⟩ := res2g (v0 := .slice none 0 0) (v1 := .slice none 0 0) (hbb) (hzz)
        have KK := Lib.hid (And.intro k1 k2)
        have r0 := block_cell (hzz) 0
        have r1 := block_cell (hzz) 1
        have f0 := block_free (hzz) 0
        have f1 := block_free (hzz) 1
        clear k1 k2
        -- the region 24 and the return behind it
        go_upto_region 24 with fail
        -- of what is to be done behind only the innermost is kept
        rename ∀ (a : Act) (w : World), Code.wp _ _ _ a w → _ => hkeep
        revert hkeep
        repeat (rename ∀ (a : Act) (w : World), Code.wp _ _ _ a w → _ => hz; clear hz)
        intro hkeep
        have HKE := Lib.hid hkeep
        clear hkeep
        go_wp2_with fail
        refine HKE.out _ _ (wp_ret ?_)
        try simp (config := { zetaDelta := true }) only [Exit.inBlock, Exit.then]
        obtain ⟨k1, k2⟩ := KK.out
        have p0 := block_cell k2 0
        have p1 := block_cell k2 1
        exact bodyPost_ret (v := .tuple #[.agg #[.slice none 0 0, .slice none 0 0], .int .i64 ((k : Int)), .int .i64 2]) (by simp [results, Tryz.results11, go_sem, p0, p1]) rfl ⟨_, _, by rw [HBAD.out.1, HBAD.out.2.1], by rw [HBAD.out.2.2]; exact grfR_none _, k1⟩
      | true =>
        obtain ⟨hown, g2, An2, At2, cn2, ct2, xs2, hnew⟩ := HEND.out.2 rfl
        have HO := Lib.hid hown
        have HN := Lib.hid hnew
        clear hown hnew HEND
        go_wp2_with fail
        go_roundw
        case rel => exact ⟨k + 1, _, _, _, _, _, _, by omega, by go_num, HO, HN⟩
        case measure => simp [intOf]; omega
    · obtain rfl : k = L := by omega
      obtain ⟨x, hx⟩ : ∃ x, P[k]? = some x := ⟨_, List.getElem?_eq_getElem (by have := HL.out; omega)⟩
      have hlt2 : (k : Int) < (k : Int) + 1 := by omega
      have hsl := own_words (w := wo) (B := w.heap.size) (v := .slice A1 (k + 1) c1) (xs := P) (by rw [HL.out]; exact HOWN.out) HPL.out
      obtain ⟨gb, o, rfl, hxs, c0⟩ := str_at hsl (d := bs x) (by rw [List.getElem?_map, hx]; rfl)
      have hlast := rrun_last (g := g) (n := k) hx HL.out.symm
      have hkb : ((bs x).toList = []) = (x = []) := str_nil
      clear hsl hxs
      by_cases hxn : x = []
      case neg =>
        have HBAD : Hid (readTN s.data.toList = k ∧ readTE s.data.toList = 2 ∧ readTV s.data.toList = ⟨[], []⟩) := by
          obtain ⟨t1, t2, t3⟩ := HR1.out k (by rw [HRG.out.run, hlast, if_neg hxn])
          exact ⟨t2, t1, t3⟩
        have d1 : ¬ (bs x).toList = [] := by rw [hkb]; exact hxn
        have d2 : ((bs x).toList == []) = false := beq_eq_false_iff_ne.2 d1
        have d3 : ((bs x).toList != []) = true := bne_iff_ne.2 d1
        have d4 : (bs x).toList.isEmpty = false := List.isEmpty_eq_false_iff.2 d1
        clear hlast hkb hx hxn
        -- a line is wrong: above w: HRG.out.bel, the result's box: HRG.out.z, the number (k : Int)
        obtain ⟨k1, k2, _⟩ := res2g (v0 := .slice none 0 0) (v1 := .slice none 0 0) (HRG.out.bel) (HRG.out.z)
        have KK := Lib.hid (And.intro k1 k2)
        have r0 := block_cell (HRG.out.z) 0
        have r1 := block_cell (HRG.out.z) 1
        have f0 := block_free (HRG.out.z) 0
        have f1 := block_free (HRG.out.z) 1
        clear k1 k2
        -- the region 26 and the return behind it
        go_upto_region 26 with fail
        -- of what is to be done behind only the innermost is kept
        rename ∀ (a : Act) (w : World), Code.wp _ _ _ a w → _ => hkeep
        revert hkeep
        repeat (rename ∀ (a : Act) (w : World), Code.wp _ _ _ a w → _ => hz; clear hz)
        intro hkeep
        have HKE := Lib.hid hkeep
        clear hkeep
        go_wp2_with fail
        refine HKE.out _ _ (wp_ret ?_)
        try simp (config := { zetaDelta := true }) only [Exit.inBlock, Exit.then]
        obtain ⟨k1, k2⟩ := KK.out
        have p0 := block_cell k2 0
        have p1 := block_cell k2 1
        exact bodyPost_ret (v := .tuple #[.agg #[.slice none 0 0, .slice none 0 0], .int .i64 ((k : Int)), .int .i64 2]) (by simp [results, Tryz.results11, go_sem, p0, p1]) rfl ⟨_, _, by rw [HBAD.out.1, HBAD.out.2.1], by rw [HBAD.out.2.2]; exact grfR_none _, k1⟩
      have HF : Hid (readTE s.data.toList = grfE g ∧ readTN s.data.toList = 0 ∧ readTV s.data.toList = if grfE g = 0 then g else ⟨[], []⟩) := HR2.out g (by rw [HRG.out.run, hlast, if_pos hxn])
      have d1 : (bs x).toList = [] := by rw [hkb]; exact hxn
      have d2 : ((bs x).toList == []) = true := by rw [d1]; rfl
      have d3 : ((bs x).toList != []) = false := by rw [d1]; rfl
      have d4 : (bs x).toList.isEmpty = true := by rw [d1]; rfl
      have HGR : Hid (GrfR wo (.slice An g.nodes.length cn) (.slice At g.ties.length ct) g) := ⟨Own.nods HRG.out.on HRG.out.nn, Own.ties HRG.out.ot HRG.out.tt⟩
      have hcall := rgraph_any g _ _ wo HGR.out
      have g0 := block_cell HRG.out.gb 0
      have g1 := block_cell HRG.out.gb 1
      generalize grfE g = ge at *
      clear hlast hkb hx hxn
      go_wp2_with fail
      refine hcall.mono ?_
      clear hcall c0 d1 d2 d3 d4 g0 g1
      rintro e w9 ⟨rfl, hb9⟩
      have HRG9 := Lib.hid (HRG.out.below hb9)
      have HGR9 := Lib.hid (HGR.out.below hb9)
      clear hb9
      by_cases hz : ge = 0
      · have hzb : (ge != 0) = false := by simpa using hz
        have HE : Hid (readTE s.data.toList = 0 ∧ readTN s.data.toList = 0 ∧ readTV s.data.toList = g) := by
          refine ⟨HF.out.1.trans hz, HF.out.2.1, ?_⟩
          rw [HF.out.2.2, if_pos hz]
        obtain ⟨k1, k2, k3⟩ := res2g (v0 := .slice An g.nodes.length cn) (v1 := .slice At g.ties.length ct) HRG9.out.bel HRG9.out.z
        have KK := Lib.hid (And.intro k1 (And.intro k2 k3))
        have r0 := block_cell HRG9.out.z 0
        have r1 := block_cell HRG9.out.z 1
        have f0 := block_free HRG9.out.z 0
        have f1 := block_free HRG9.out.z 1
        have g0 := block_cell HRG9.out.gb 0
        have g1 := block_cell HRG9.out.gb 1
        clear k1 k2 k3 hz
        -- the region 30 and the return behind it
        go_upto_region 30 with fail
        -- of what is to be done behind only the innermost is kept
        rename ∀ (a : Act) (w : World), Code.wp _ _ _ a w → _ => hkeep
        revert hkeep
        repeat (rename ∀ (a : Act) (w : World), Code.wp _ _ _ a w → _ => hz; clear hz)
        intro hkeep
        have HKE := Lib.hid hkeep
        clear hkeep
        go_wp2_with fail
        refine HKE.out _ _ (wp_ret ?_)
        try simp (config := { zetaDelta := true }) only [Exit.inBlock, Exit.then]
        obtain ⟨k1, k2, k3⟩ := KK.out
        have p0 := block_cell k2 0
        have p1 := block_cell k2 1
        exact bodyPost_ret (v := .tuple #[.agg #[.slice An g.nodes.length cn, .slice At g.ties.length ct], .int .i64 0, .int .i64 0]) (by simp [results, Tryz.results11, go_sem, p0, p1]) rfl ⟨_, _, by rw [HE.out.1, HE.out.2.1]; rfl, by
          rw [HE.out.2.2]
          exact ⟨Own.nods (HRG9.out.on.same (k3 _ (by decide))) (HRG9.out.nn.same (k3 _ (by decide))), Own.ties (HRG9.out.ot.same (k3 _ (by decide))) HRG9.out.tt⟩, k1⟩
      · have hzb : (ge != 0) = true := by simpa using hz
        have HE : Hid (readTE s.data.toList = ge ∧ readTN s.data.toList = 0 ∧ readTV s.data.toList = ⟨[], []⟩) := by
          refine ⟨HF.out.1, HF.out.2.1, ?_⟩
          rw [HF.out.2.2, if_neg hz]
        obtain ⟨k1, k2, _⟩ := res2g (v0 := .slice none 0 0) (v1 := .slice none 0 0) HRG9.out.bel HRG9.out.z
        have KK := Lib.hid (And.intro k1 k2)
        have r0 := block_cell HRG9.out.z 0
        have r1 := block_cell HRG9.out.z 1
        have f0 := block_free HRG9.out.z 0
        have f1 := block_free HRG9.out.z 1
        clear k1 k2 hz
        -- the region 29 and the return behind it
        go_upto_region 29 with fail
        -- of what is to be done behind only the innermost is kept
        rename ∀ (a : Act) (w : World), Code.wp _ _ _ a w → _ => hkeep
        revert hkeep
        repeat (rename ∀ (a : Act) (w : World), Code.wp _ _ _ a w → _ => hz; clear hz)
        intro hkeep
        have HKE := Lib.hid hkeep
        clear hkeep
        go_wp2_with fail
        refine HKE.out _ _ (wp_ret ?_)
        try simp (config := { zetaDelta := true }) only [Exit.inBlock, Exit.then]
        obtain ⟨k1, k2⟩ := KK.out
        have p0 := block_cell k2 0
        have p1 := block_cell k2 1
        exact bodyPost_ret (v := .tuple #[.agg #[.slice none 0 0, .slice none 0 0], .int .i64 0, .int .i64 ge]) (by simp [results, Tryz.results11, go_sem, p0, p1]) rfl ⟨_, _, by rw [HE.out.1, HE.out.2.1]; rfl, by rw [HE.out.2.2]; exact grfR_none _, k1⟩
end Go.Proofs.YtflidfmpmakggaaGreatDoor
