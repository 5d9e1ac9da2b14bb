/- Parts: GxA, VtG, RgP, Stir. -/
import Derived.Test.YtflidfmpmakggaaGreatDoorMg09
import Derived.Test.YtflidfmpmakggaaGreatDoorMg10
import Derived.Test.YtflidfmpmakggaaGreatDoorMg11
import Derived.Test.YtflidfmpmakggaaGreatDoorMg08
import Derived.Test.YtflidfmpmakggaaGreatDoorMg01
import Derived.RangeFuncNested
/- Contract of the reference: kinref2.GraphText: a graph that is right, as text. Condition: the graph is right. -/
namespace Go.Proofs.YtflidfmpmakggaaGreatDoor
open Go Go.RowKit

theorem id_small {n : Int} (h : idB n = true) : -1000000 ≤ n ∧ n ≤ 1000000 := by
  unfold idB at h
  simp only [Bool.and_eq_true, decide_eq_true_eq] at h
  omega
set_option maxRecDepth 100000 in
set_option maxHeartbeats 8000000 in
theorem rgraphText_any (g : Grf) (vn vt : Value) (w : World) (hG : GrfR w vn vt g) (hg : grfE g = 0) :
    Calls Tryz.prog 8 #[.agg #[vn, vt]] w fun e w' => e = .returned (.string (bs (grfT g))) ∧ Below w.heap.size w w' := by
  obtain ⟨An, cn, rfl, _, _⟩ := hG.1.form
  obtain ⟨At, ct, rfl, _, _⟩ := hG.2.form
  have ho := grf_ok hg
  have HOK := Lib.hid ho.2.2.2
  have HTI := Lib.hid (grf_ties hg).2
  have hnl := ho.1
  have htl := ho.2.1
  have hb0 : Below w.heap.size w (w.alloc (.cells #[.slice An g.nodes.length cn, .slice At g.ties.length ct] 25)) := (Below.refl _ _).alloc (Nat.le_refl _) _
  obtain ⟨x0, x1⟩ := cell_box2 w (.slice An g.nodes.length cn) (.slice At g.ties.length ct) 25
  have HG := Lib.hid (hG.below hb0)
  have HF : Hid (grfT g = g.nodes.flatMap nodT ++ g.ties.flatMap tieT2) := rfl
  clear hG hg ho
  go_enter Tryz.func8, Tryz.ntmps8
  go_upto_region 2 with fail
  generalize w.alloc (.cells #[.slice An g.nodes.length cn, .slice At g.ties.length ct] 25) = W0 at *
  have X := Lib.hid (And.intro x0 x1)
  clear x0 x1
  go_wp2_with fail
  go_loopw [3, 4] (fun sv i wr => ∃ k : Nat, k ≤ g.nodes.length ∧ i = .int .i64 k ∧ sv = .string (bs ((g.nodes.take k).flatMap nodT)) ∧ Below W0.heap.size W0 wr) (fun _ i _ => g.nodes.length - (intOf i).toNat)
  case atStart => exact ⟨0, Nat.zero_le _, rfl, by rw [List.take_zero]; rfl, Below.refl _ _⟩
  case round =>
    obtain ⟨k, hk, rfl, rfl, hbr⟩ := hrel
    obtain ⟨wo, hwo⟩ : ∃ wo : World, wo = wr := ⟨_, rfl⟩
    subst hwo
    have y0 := cell_below hbr X.out.1
    have hsz : (bs ((g.nodes.take k).flatMap nodT)).size ≤ 60 * 450 := by
      rw [bs_size]
      have h1 := flatMap_len (f := nodT) (m := 450) (l := g.nodes.take k) fun y hy => nod_len (HOK.out y (List.mem_of_mem_take hy)).2
      have h2 : (g.nodes.take k).length ≤ 60 := by rw [List.length_take]; omega
      exact Nat.le_trans h1 (Nat.mul_le_mul h2 (Nat.le_refl _))
    by_cases hlt : k < g.nodes.length
    · obtain ⟨d, hd⟩ : ∃ d, g.nodes[k]? = some d := ⟨_, List.getElem?_eq_getElem hlt⟩
      have hlt' : (k : Int) < (g.nodes.length : Int) := by omega
      obtain ⟨gb, o, rfl, u, _, _, hu, c0, c1, c2⟩ := nod_at (HG.out.below hbr).1 hd
      obtain ⟨Au, cu, rfl, _, _⟩ := hu.form
      have hde := (HOK.out d (List.mem_of_getElem? hd)).2
      obtain ⟨p1, p2, p3⟩ := nod_parts2 hde
      have hil : (bs (Lib.itoa d.id)).size ≤ 10 := by rw [bs_size]; exact itoa_id p1
      have hkl : d.kind.size ≤ 8 := by have := name_len p2; rw [Array.length_toList] at this; exact this
      have hrl : (bs (recT d.props)).size ≤ 417 := by rw [bs_size]; exact rec_len p3
      have HT : Hid (bs ((g.nodes.take (k + 1)).flatMap nodT) = bs ((g.nodes.take k).flatMap nodT) ++ bs [110, 111, 100, 101, 32] ++ bs (Lib.itoa d.id) ++ bs [32] ++ d.kind ++ bs [32] ++ bs (recT d.props) ++ bs [10]) := by
        unfold Hid
        rw [List.take_add_one, hd, List.flatMap_append]
        conv => rhs; rw [← bs_of d.kind]
        simp only [bs_append]
        congr 1
        simp [nodT]
      have ha2 : Below wo.heap.size wo (wo.alloc (.cells #[.int .i64 d.id, .string d.kind, .slice Au d.props.length cu] 98)) := (Below.refl _ _).alloc (Nat.le_refl _) _
      have HBK := Lib.hid (heap_alloc_new wo (.cells #[.int .i64 d.id, .string d.kind, .slice Au d.props.length cu] 98))
      have hx := dig_any d.id (id_small p1) (wo.alloc (.cells #[.int .i64 d.id, .string d.kind, .slice Au d.props.length cu] 98))
      have HU := Lib.hid (hu.below ha2)
      have HP3 := Lib.hid p3
      have hb2 := hbr.trans (ha2.mono hbr.size)
      clear hd hde p1 p2 p3 hu ha2
      go_upto_region 6 with fail
      generalize wo.alloc (.cells #[.int .i64 d.id, .string d.kind, .slice Au d.props.length cu] 98) = w2 at *
      clear c0 c1 c2 y0
      have z0 := block_cell HBK.out 0
      go_wp2_with fail
      refine hx.mono ?_
      clear hx z0
      rintro e w3 ⟨rfl, hb⟩
      have hb3 := hb2.trans (hb.mono hb2.size)
      have HBK := Lib.hid ((hb.block _ (Array.getElem?_eq_some_iff.1 HBK.out).1).trans HBK.out)
      have hx := rshowRec_any d.props _ w3 (HU.out.below hb) HP3.out
      clear hb
      have z2 := block_cell HBK.out 2
      go_wp2_with fail
      refine hx.mono ?_
      clear hx z2
      rintro e w4 ⟨rfl, hb⟩
      have hb4 := hb3.trans (hb.mono hb3.size)
      have HBK := Lib.hid ((hb.block _ (Array.getElem?_eq_some_iff.1 HBK.out).1).trans HBK.out)
      have z1 := block_cell HBK.out 1
      generalize bs ((g.nodes.take k).flatMap nodT) = J at *
      generalize bs (Lib.itoa d.id) = I at *
      generalize bs (recT d.props) = R at *
      have s1 : ¬ 9223372036854775807 < J.size + 5 := by omega
      have s2 : ¬ 9223372036854775807 < J.size + 5 + I.size := by omega
      have s3 : ¬ 9223372036854775807 < J.size + 5 + I.size + 1 := by omega
      have s4 : ¬ 9223372036854775807 < J.size + 5 + I.size + 1 + d.kind.size := by omega
      have s5 : ¬ 9223372036854775807 < J.size + 5 + I.size + 1 + d.kind.size + 1 := by omega
      have s6 : ¬ 9223372036854775807 < J.size + 5 + I.size + 1 + d.kind.size + 1 + R.size := by omega
      have s7 : ¬ 9223372036854775807 < J.size + 5 + I.size + 1 + d.kind.size + 1 + R.size + 1 := by omega
      clear hbr hb2 hb3 hb HU HP3
      go_wp2_with fail
      go_roundw
      case rel => exact ⟨k + 1, by omega, by go_num, by rw [HT.out]; rfl, hb4⟩
      case measure => simp [intOf]; omega
    · obtain rfl : k = g.nodes.length := by omega
      have HN : Hid (bs ((g.nodes.take g.nodes.length).flatMap nodT) = bs (g.nodes.flatMap nodT)) := by unfold Hid; rw [List.take_length]
      rw [HN.out]
      clear hlt hk hsz HN
      have hb0r := hb0.trans (hbr.mono hb0.size)
      have hnz : (bs (g.nodes.flatMap nodT)).size ≤ 60 * 450 := by
        rw [bs_size]
        have h1 := flatMap_len (f := nodT) (m := 450) (l := g.nodes) fun y hy => nod_len (HOK.out y hy).2
        exact Nat.le_trans h1 (Nat.mul_le_mul hnl (Nat.le_refl _))
      go_wp2_with fail
      go_loopw [3, 8] (fun sv i wr => ∃ k : Nat, k ≤ g.ties.length ∧ i = .int .i64 k ∧ sv = .string (bs (g.nodes.flatMap nodT ++ (g.ties.take k).flatMap tieT2)) ∧ Below W0.heap.size W0 wr) (fun _ i _ => g.ties.length - (intOf i).toNat)
      case atStart => exact ⟨0, Nat.zero_le _, rfl, by rw [List.take_zero]; simp, hbr⟩
      case round =>
        clear y0 hbr hb0r
        obtain ⟨k, hk, rfl, rfl, hbr⟩ := hrel
        obtain ⟨w5, hw5⟩ : ∃ wo : World, wo = wr := ⟨_, rfl⟩
        subst hw5
        have y1 := cell_below hbr X.out.2
        have hsz : (bs (g.nodes.flatMap nodT ++ (g.ties.take k).flatMap tieT2)).size ≤ 60 * 450 + 120 * 450 := by
          rw [bs_size] at hnz ⊢
          rw [List.length_append]
          have h1 := flatMap_len (f := tieT2) (m := 450) (l := g.ties.take k) fun y hy => tie_len2 (HTI.out y (List.mem_of_mem_take hy))
          have h2 : (g.ties.take k).length ≤ 120 := by rw [List.length_take]; omega
          have h3 := Nat.le_trans h1 (Nat.mul_le_mul h2 (Nat.le_refl 450))
          omega
        by_cases hlt : k < g.ties.length
        · obtain ⟨d, hd⟩ : ∃ d, g.ties[k]? = some d := ⟨_, List.getElem?_eq_getElem hlt⟩
          have hlt' : (k : Int) < (g.ties.length : Int) := by omega
          obtain ⟨gb, o, rfl, _, c0, c1, c2⟩ := tie_at (HG.out.below hbr).2 hd
          have hte := HTI.out d (List.mem_of_getElem? hd)
          obtain ⟨p1, p2, p3⟩ := tie_parts2 hte
          have hal : (bs (Lib.itoa d.src)).size ≤ 10 := by rw [bs_size]; exact itoa_id p2
          have hbl : (bs (Lib.itoa d.dst)).size ≤ 10 := by rw [bs_size]; exact itoa_id p3
          have hkl : d.bond.size ≤ 8 := by have := name_len p1; rw [Array.length_toList] at this; exact this
          have HT : Hid (bs (g.nodes.flatMap nodT ++ (g.ties.take (k + 1)).flatMap tieT2) = bs (g.nodes.flatMap nodT ++ (g.ties.take k).flatMap tieT2) ++ bs [116, 105, 101, 32] ++ d.bond ++ bs [32] ++ bs (Lib.itoa d.src) ++ bs [32] ++ bs (Lib.itoa d.dst) ++ bs [10]) := by
            unfold Hid
            rw [List.take_add_one, hd, List.flatMap_append]
            conv => rhs; rw [← bs_of d.bond]
            simp only [bs_append]
            congr 1
            simp [tieT2]
          have ha2 : Below w5.heap.size w5 (w5.alloc (.cells #[.string d.bond, .int .i64 d.src, .int .i64 d.dst] 102)) := (Below.refl _ _).alloc (Nat.le_refl _) _
          have HBK := Lib.hid (heap_alloc_new w5 (.cells #[.string d.bond, .int .i64 d.src, .int .i64 d.dst] 102))
          have hx := dig_any d.src (id_small p2) (w5.alloc (.cells #[.string d.bond, .int .i64 d.src, .int .i64 d.dst] 102))
          have HX2 := Lib.hid (fun wx => dig_any d.dst (id_small p3) wx)
          have hb2 := hbr.trans (ha2.mono hbr.size)
          clear hd hte p1 p2 p3 ha2
          go_upto_region 13 with fail
          generalize w5.alloc (.cells #[.string d.bond, .int .i64 d.src, .int .i64 d.dst] 102) = w6 at *
          clear c0 c1 c2 y1
          have z1 := block_cell HBK.out 1
          go_wp2_with fail
          refine hx.mono ?_
          clear hx z1
          rintro e w3 ⟨rfl, hb⟩
          have hb3 := hb2.trans (hb.mono hb2.size)
          have HBK := Lib.hid ((hb.block _ (Array.getElem?_eq_some_iff.1 HBK.out).1).trans HBK.out)
          have hx := HX2.out w3
          clear hb HX2
          have z2 := block_cell HBK.out 2
          go_wp2_with fail
          refine hx.mono ?_
          clear hx z2
          rintro e w4 ⟨rfl, hb⟩
          have hb4 := hb3.trans (hb.mono hb3.size)
          have HBK := Lib.hid ((hb.block _ (Array.getElem?_eq_some_iff.1 HBK.out).1).trans HBK.out)
          have z0 := block_cell HBK.out 0
          generalize bs (g.nodes.flatMap nodT ++ (g.ties.take k).flatMap tieT2) = J at *
          generalize bs (Lib.itoa d.src) = I at *
          generalize bs (Lib.itoa d.dst) = R at *
          have s1 : ¬ 9223372036854775807 < J.size + 4 := by omega
          have s2 : ¬ 9223372036854775807 < J.size + 4 + d.bond.size := by omega
          have s3 : ¬ 9223372036854775807 < J.size + 4 + d.bond.size + 1 := by omega
          have s4 : ¬ 9223372036854775807 < J.size + 4 + d.bond.size + 1 + I.size := by omega
          have s5 : ¬ 9223372036854775807 < J.size + 4 + d.bond.size + 1 + I.size + 1 := by omega
          have s6 : ¬ 9223372036854775807 < J.size + 4 + d.bond.size + 1 + I.size + 1 + R.size := by omega
          have s7 : ¬ 9223372036854775807 < J.size + 4 + d.bond.size + 1 + I.size + 1 + R.size + 1 := by omega
          clear hbr hb2 hb3 hb
          go_wp2_with fail
          go_roundw
          case rel => exact ⟨k + 1, by omega, by go_num, by rw [HT.out]; rfl, hb4⟩
          case measure => simp [intOf]; omega
        · obtain rfl : k = g.ties.length := by omega
          have HN : Hid (bs (grfT g) = bs (g.nodes.flatMap nodT ++ (g.ties.take g.ties.length).flatMap tieT2)) := by unfold Hid; rw [HF.out, List.take_length]
          generalize bs (g.nodes.flatMap nodT ++ (g.ties.take g.ties.length).flatMap tieT2) = J at *
          go_wp2_with fail
          go_ret
          exact ⟨by rw [HN.out]; rfl, hb0.trans (hbr.mono hb0.size)⟩
open Go

/-- A text's lines, each with its end. -/
def linesF (cur : List UInt8) : List UInt8 → List (List UInt8)
  | [] => if cur = [] then [] else [cur]
  | c :: l => if c = 10 then (cur ++ [10]) :: linesF [] l else linesF (cur ++ [c]) l
theorem linesF_cons (cur : List UInt8) (c : UInt8) (l : List UInt8) : linesF cur (c :: l) = if c = 10 then (cur ++ [10]) :: linesF [] l else linesF (cur ++ [c]) l := rfl
def linesL (l : List UInt8) : List (List UInt8) := linesF [] l
theorem linesF_sign : ∀ (a r cur : List UInt8), noB 10 a → linesF cur (a ++ 10 :: r) = (cur ++ a ++ [10]) :: linesL r
  | [], r, cur, _ => by
    show linesF cur (10 :: r) = _
    rw [linesF_cons, if_pos rfl, List.append_nil]; rfl
  | x :: a, r, cur, h => by
    show linesF cur (x :: (a ++ 10 :: r)) = _
    rw [linesF_cons, if_neg (h x (by simp)), linesF_sign a r _ fun y hy => h y (List.mem_cons_of_mem _ hy)]
    simp
theorem linesF_no : ∀ (a cur : List UInt8), noB 10 a → linesF cur a = if cur ++ a = [] then [] else [cur ++ a]
  | [], cur, _ => by rw [List.append_nil]; rfl
  | x :: a, cur, h => by
    rw [linesF_cons, if_neg (h x (by simp)), linesF_no a _ fun y hy => h y (List.mem_cons_of_mem _ hy)]
    simp
theorem lines_sign {a r : List UInt8} (h : noB 10 a) : linesL (a ++ 10 :: r) = (a ++ [10]) :: linesL r := by
  have := linesF_sign a r [] h
  rw [List.nil_append] at this
  exact this
theorem lines_no {a : List UInt8} (h : noB 10 a) (h0 : a ≠ []) : linesL a = [a] := by
  unfold linesL
  rw [linesF_no a [] h, if_neg (by simpa using h0)]; rfl
theorem lines_nil : linesL [] = [] := rfl
theorem lines_whole : ∀ (n : Nat) (l : List UInt8), l.length ≤ n → (linesL l).flatten = l
  | n, l, hn => by
    by_cases h0 : l = []
    · subst h0; rfl
    rcases first_sign 10 l with h | ⟨a, r, rfl, h⟩
    · rw [lines_no h h0]; simp
    · cases n with
      | zero => simp at hn
      | succ n =>
        rw [lines_sign h, List.flatten_cons, lines_whole n r (by simp at hn; omega)]; simp
theorem suffix_line (a : List UInt8) : Lib.hasSuffix (a ++ [10]) [10] = true ∧ Lib.trimSuffix (a ++ [10]) [10] = a := by
  have h : Lib.hasSuffix (a ++ [10]) [10] = true := by
    unfold Lib.hasSuffix
    rw [List.isSuffixOf_iff_suffix]
    exact ⟨a, rfl⟩
  refine ⟨h, ?_⟩
  unfold Lib.trimSuffix
  rw [h, if_pos rfl]
  simp
theorem suffix_cases (x : List UInt8) : Lib.hasSuffix x [10] = false ∨ ∃ a, x = a ++ [10] := by
  cases h : Lib.hasSuffix x [10] with
  | false => exact .inl rfl
  | true =>
    unfold Lib.hasSuffix at h
    rw [List.isSuffixOf_iff_suffix] at h
    obtain ⟨a, e⟩ := h
    exact .inr ⟨a, e.symm⟩
/-- Cut in three. -/
theorem splitK_hit1 {c : UInt8} {a r : List UInt8} (h : noB c a) (k : Nat) : Lib.splitK [c] 0 (k + 1) (a ++ c :: r) = a :: Lib.splitK [c] 0 k r := by
  show (if Lib.index (a ++ c :: r) [c] == -1 then [a ++ c :: r] else (a ++ c :: r).take ((Lib.index (a ++ c :: r) [c]).toNat + 0) :: Lib.splitK [c] 0 k ((a ++ c :: r).drop ((Lib.index (a ++ c :: r) [c]).toNat + 1))) = _
  rw [index_sign h, if_neg (by simp)]
  simp
theorem splitK_no {c : UInt8} {a : List UInt8} (h : noB c a) (k : Nat) : Lib.splitK [c] 0 k a = [a] := by
  cases k with
  | zero => rfl
  | succ k =>
    show (if Lib.index a [c] == -1 then [a] else _) = _
    rw [index_no h, if_pos (by decide)]
theorem split3_of {c : UInt8} {a b r : List UInt8} (ha : noB c a) (hb : noB c b) : Lib.splitN (a ++ c :: (b ++ c :: r)) [c] 3 = [a, b, r] := by
  unfold Lib.splitN
  have e : min 3 ((a ++ c :: (b ++ c :: r)).length + 1) - 1 = 2 := by simp; omega
  rw [e, splitK_hit1 ha, splitK_hit1 hb]; rfl
theorem split3_len (c : UInt8) (l : List UInt8) : (Lib.splitN l [c] 3).length ≤ 3 := by
  unfold Lib.splitN
  obtain ⟨k, hk, hk2⟩ : ∃ k, min 3 (l.length + 1) - 1 = k ∧ k ≤ 2 := ⟨_, rfl, by omega⟩
  rw [hk]
  rcases first_sign c l with h1 | ⟨a', r', rfl, h1⟩
  · rw [splitK_no h1]; simp
  · cases k with
    | zero => simp [Lib.splitK]
    | succ k =>
      rw [splitK_hit1 h1]
      rcases first_sign c r' with h2 | ⟨b', r'', rfl, h2⟩
      · rw [splitK_no h2]; simp
      · cases k with
        | zero => simp [Lib.splitK]
        | succ k =>
          obtain rfl : k = 0 := by omega
          rw [splitK_hit1 h2]; simp [Lib.splitK]
def nodeW : List UInt8 := [110, 111, 100, 101]
def tieW : List UInt8 := [116, 105, 101]
/-- A node, a tie of what stands behind its word. -/
def readNodL (l : List UInt8) : Option Nod := match Lib.splitN l [32] 3 with
  | [a, b, c] => if b = [] then none else match numL a 4 with
    | none => none
    | some n => if readRE c = 0 then some ⟨n, bs b, readRV c⟩ else none
  | _ => none
def readTieL (l : List UInt8) : Option Tie := match Lib.split l [32] with
  | [a, b, c] => if a = [] then none else match numL b 4, numL c 4 with
    | some x, some y => some ⟨bs a, x, y⟩
    | _, _ => none
  | _ => none
/-- A line more. -/
def lineT (g : Grf) (x : List UInt8) : Option Grf :=
  if Lib.hasSuffix x [10] = true then
    (if (Lib.cut (Lib.trimSuffix x [10]) [32]).1 = nodeW ∧ g.ties.length = 0 then (readNodL (Lib.cut (Lib.trimSuffix x [10]) [32]).2.1).map fun n => ⟨g.nodes ++ [n], g.ties⟩
     else if (Lib.cut (Lib.trimSuffix x [10]) [32]).1 = tieW then (readTieL (Lib.cut (Lib.trimSuffix x [10]) [32]).2.1).map fun t => ⟨g.nodes, g.ties ++ [t]⟩
     else none)
  else none
/-- Lines, one by one: the graph, or the number of the line that is wrong. -/
def runT (g : Grf) (n : Nat) : List (List UInt8) → Except Nat Grf
  | [] => .ok g
  | x :: xs => match lineT g x with
    | none => .error n
    | some g' => runT g' (n + 1) xs
def readTE (l : List UInt8) : Int := match runT ⟨[], []⟩ 0 (linesL l) with | .error _ => 2 | .ok g => grfE g
def readTN (l : List UInt8) : Nat := match runT ⟨[], []⟩ 0 (linesL l) with | .error n => n | .ok _ => 0
def readTV (l : List UInt8) : Grf := match runT ⟨[], []⟩ 0 (linesL l) with | .error _ => ⟨[], []⟩ | .ok g => if grfE g = 0 then g else ⟨[], []⟩

/-- The reference's lines, one by one: the last one must be empty. -/
def rrun (g : Grf) (n : Nat) : List (List UInt8) → Except Nat Grf
  | [] => .ok g
  | [x] => if x = [] then .ok g else .error n
  | x :: y :: r => match lineT g (x ++ [10]) with
    | none => .error n
    | some g' => rrun g' (n + 1) (y :: r)
theorem suffix_noB {x : List UInt8} (h : noB 10 x) : Lib.hasSuffix x [10] = false := by
  rcases suffix_cases x with h1 | ⟨a, rfl⟩
  · exact h1
  · exact absurd rfl (h 10 (by simp))
theorem rrun_eq : ∀ (m : Nat) (l : List UInt8) (g : Grf) (n : Nat), l.length ≤ m → rrun g n (Lib.split l [10]) = runT g n (linesL l)
  | m, l, g, n, hm => by
    rcases first_sign 10 l with h | ⟨a, r, rfl, h⟩
    · rw [split_no h]
      by_cases h0 : l = []
      · subst h0; rw [lines_nil]; rfl
      · rw [lines_no h h0]
        show (if l = [] then _ else _) = (match lineT g l with | none => _ | some g' => _)
        rw [if_neg h0]
        have : lineT g l = none := by unfold lineT; rw [suffix_noB h]; rfl
        rw [this]
    · cases m with
      | zero => simp at hm
      | succ m =>
        rw [split_sign h, lines_sign h]
        have ih := fun g' => rrun_eq m r g' (n + 1) (by simp at hm; omega)
        cases hs : Lib.split r [10] with
        | nil => exact absurd hs (split_ne 10 r)
        | cons y t =>
          rw [hs] at ih
          show (match lineT g (a ++ [10]) with | none => Except.error n | some g' => rrun g' (n + 1) (y :: t)) = (match lineT g (a ++ [10]) with | none => Except.error n | some g' => runT g' (n + 1) (linesL r))
          cases lineT g (a ++ [10]) with
          | none => rfl
          | some g' => exact ih g'
theorem rrun_more {g : Grf} {P : List (List UInt8)} {k : Nat} {x : List UInt8} {n : Nat} (hx : P[k]? = some x) (hk : k + 1 < P.length) :
    (lineT g (x ++ [10]) = none → rrun g n (P.drop k) = .error n) ∧ ∀ g', lineT g (x ++ [10]) = some g' → rrun g n (P.drop k) = rrun g' (n + 1) (P.drop (k + 1)) := by
  obtain ⟨y, hy⟩ : ∃ y, P[k + 1]? = some y := ⟨_, List.getElem?_eq_getElem hk⟩
  have e1 : P.drop k = x :: P.drop (k + 1) := by
    obtain ⟨h1, e⟩ := List.getElem?_eq_some_iff.1 hx
    rw [List.drop_eq_getElem_cons h1, e]
  have e2 : P.drop (k + 1) = y :: P.drop (k + 1 + 1) := by
    obtain ⟨h1, e⟩ := List.getElem?_eq_some_iff.1 hy
    rw [List.drop_eq_getElem_cons h1, e]
  rw [e1, e2]
  constructor
  · intro h
    show (match lineT g (x ++ [10]) with | none => _ | some g' => _) = _
    rw [h]
  · intro g' h
    show (match lineT g (x ++ [10]) with | none => _ | some g' => _) = _
    rw [h]
theorem rrun_last {g : Grf} {P : List (List UInt8)} {k : Nat} {x : List UInt8} {n : Nat} (hx : P[k]? = some x) (hk : k + 1 = P.length) : rrun g n (P.drop k) = if x = [] then .ok g else .error n := by
  have e1 : P.drop k = [x] := by
    obtain ⟨h1, e⟩ := List.getElem?_eq_some_iff.1 hx
    rw [List.drop_eq_getElem_cons h1, e, hk, List.drop_length]
  rw [e1]; rfl
theorem read_rrun (l : List UInt8) : (∀ n, rrun ⟨[], []⟩ 0 (Lib.split l [10]) = .error n → readTE l = 2 ∧ readTN l = n ∧ readTV l = ⟨[], []⟩) ∧ ∀ g, rrun ⟨[], []⟩ 0 (Lib.split l [10]) = .ok g → readTE l = grfE g ∧ readTN l = 0 ∧ readTV l = if grfE g = 0 then g else ⟨[], []⟩ := by
  rw [rrun_eq l.length l _ _ (Nat.le_refl _)]
  unfold readTE readTN readTV
  constructor
  · intro n h; rw [h]; exact ⟨rfl, rfl, rfl⟩
  · intro g h; rw [h]; exact ⟨rfl, rfl, rfl⟩
/-- A node's line, cut at its blanks. -/
theorem nod_cut {rest a x k y : List UInt8} {p q : Bool} (h1 : Lib.cut rest [32] = (a, x, p)) (h2 : Lib.cut x [32] = (k, y, q)) :
    readNodL rest = if p = true ∧ q = true ∧ k ≠ [] ∧ readRE y = 0 then (numL a 4).map (fun (n : Nat) => (⟨(n : Int), bs k, readRV y⟩ : Nod)) else none := by
  rcases cut_cases 32 rest with ⟨hc, hn⟩ | ⟨a', r', rfl, hn, hc⟩
  · rw [hc] at h1
    injection h1 with _ h1
    injection h1 with _ h1
    subst h1
    rw [if_neg (fun h => by cases h.1)]
    unfold readNodL
    have e : Lib.splitN rest [32] 3 = [rest] := by
      unfold Lib.splitN
      generalize min 3 (rest.length + 1) - 1 = m
      exact splitK_no hn m
    rw [e]
  · rw [hc] at h1
    injection h1 with e1 h1
    injection h1 with e2 h1
    subst e1; subst e2; subst h1
    rcases cut_cases 32 r' with ⟨hc2, hn2⟩ | ⟨k', y', rfl, hn2, hc2⟩
    · rw [hc2] at h2
      injection h2 with _ h2
      injection h2 with _ h2
      subst h2
      rw [if_neg (fun h => by cases h.2.1)]
      unfold readNodL
      have e : Lib.splitN (a' ++ 32 :: r') [32] 3 = [a', r'] := by
        unfold Lib.splitN
        obtain ⟨m, hm⟩ : ∃ m, min 3 ((a' ++ 32 :: r').length + 1) - 1 = m + 1 := ⟨min 3 ((a' ++ 32 :: r').length + 1) - 2, by simp; omega⟩
        rw [hm, splitK_hit1 hn, splitK_no hn2]
      rw [e]
    · rw [hc2] at h2
      injection h2 with e3 h2
      injection h2 with e4 h2
      subst e3; subst e4; subst h2
      unfold readNodL
      rw [split3_of hn hn2]
      by_cases hb : k' = []
      · rw [if_neg (fun h => h.2.2.1 hb)]
        show (if k' = [] then none else _) = _
        rw [if_pos hb]
      · show (if k' = [] then none else match numL a' 4 with | none => none | some n => if readRE y' = 0 then some (⟨n, bs k', readRV y'⟩ : Nod) else none) = _
        rw [if_neg hb]
        by_cases hr : readRE y' = 0
        · rw [if_pos ⟨rfl, rfl, hb, hr⟩]
          cases numL a' 4 with
          | none => rfl
          | some n => show (if readRE y' = 0 then _ else _) = _; rw [if_pos hr]; rfl
        · rw [if_neg (fun h => hr h.2.2.2)]
          cases numL a' 4 with
          | none => rfl
          | some n => show (if readRE y' = 0 then _ else _) = _; rw [if_neg hr]
theorem lineT_at {g : Grf} {x K R : List UInt8} {f : Bool} (h : Lib.cut x [32] = (K, R, f)) : lineT g (x ++ [10]) = if K = nodeW ∧ g.ties.length = 0 then (readNodL R).map (fun n => (⟨g.nodes ++ [n], g.ties⟩ : Grf)) else if K = tieW then (readTieL R).map (fun t => (⟨g.nodes, g.ties ++ [t]⟩ : Grf)) else none := by
  obtain ⟨h1, h2⟩ := suffix_line x
  unfold lineT
  rw [if_pos h1, h2, h]
theorem read_empty : readNodL [] = none ∧ readTieL [] = none := ⟨by decide +kernel, by decide +kernel⟩
theorem cut_false {x K R : List UInt8} (h : Lib.cut x [32] = (K, R, false)) : R = [] := by
  rcases cut_cases 32 x with ⟨hc, _⟩ | ⟨a, r, rfl, _, hc⟩
  · rw [hc] at h; injection h with _ h; injection h with h _; exact h.symm
  · rw [hc] at h; injection h with _ h; injection h with _ h; cases h

section
variable {F : Fence} {n : Nat} {P : Program} {α : Type}

/-- What the steps of R leave true. -/
def Stands {β : Type} (R : World → World → Prop) (J : β → World → Prop) : Prop := ∀ s X Y, J s X → R X Y → J s Y
/-- The iterator hands its elements over one by one; between the rounds it takes steps of R; a round must keep Kp; S tells what it has handed over at its end, Sp where it was stopped. -/
def Stirs (F : Fence) (n : Nat) (P : Program) (g : Nat) (lb : Array Value) (encs : α → Array Value) (Kp R : World → World → Prop) (S Sp : List α → Prop) (w : World) : Prop :=
  ∀ (l : Nat) (J Jx : List α → World → Prop) (W : World), Below w.heap.size w W → Stands R J → Stands R Jx →
    (∀ pre x W1, Sp (pre ++ [x]) → J pre W1 → YieldAt F (n - 1) P l (encs x) W1 fun e W' => (e = .returned (.bool true) ∧ J (pre ++ [x]) W' ∧ Kp W1 W') ∨ (e = .returned (.bool false) ∧ Jx (pre ++ [x]) W')) →
    J [] W → CallsIn F n P g (#[.func (.yield l) #[] #[]] ++ lb) W fun e W' => (∃ v, e = .returned v) ∧ ((∃ xs, S xs ∧ J xs W') ∨ (∃ pre, Sp pre ∧ Jx pre W'))

/-- The record of the loop, and the block of its deferred calls, as they lie at b + 1 and b. -/
def Recd (b : Nat) (r : Loop) (W : World) : Prop := W.heap[b + 1]? = some (.loop r) ∧ W.heap[b]? = some (.deferred (some []))
theorem Recd.put {b : Nat} {r r' : Loop} {W : World} (h : Recd b r W) : Recd b r' (W.putObj (b + 1) (.loop r')) :=
  ⟨World.putObj_heap_same (Array.getElem?_eq_some_iff.1 h.1).1, (World.putObj_heap_other (by omega)).trans h.2⟩
theorem Recd.keeps {b : Nat} {r : Loop} {W W' : World} (h : Recd b r W) (hk : KeepsFrom b W W') : Recd b r W' := ⟨hk.same _ _ (by omega) h.1 rfl, hk.same _ _ (Nat.le_refl _) h.2 rfl⟩
theorem Recd.step {b : Nat} {r : Loop} {W W' : World} (h : Recd b r W) (hk : ∀ (k : Nat) (o : Obj), b ≤ k → W.heap[k]? = some o → o.isCells = false → W'.heap[k]? = some o) : Recd b r W' := ⟨hk _ _ (by omega) h.1 rfl, hk _ _ (Nat.le_refl _) h.2 rfl⟩

set_option maxHeartbeats 400000 in
theorem wpIn_rangeFunc_stirs {g : Operand} {ps : Array Tmp} {assign body : Code} {Q : Exit → Act → World → Prop} {a : Act} {w : World}
    (hro : F.round = none) (h1 : 1 ≤ n) {gf : Nat} {lb : Array Value} (hg : a.eval g = .func (.func gf) #[] lb) (hFg : F.fn gf) (eg : ∀ args w, (callFunc gf args).run P w = .ok (.enter gf args) w)
    {encs : α → Array Value} {Kp R : World → World → Prop} {S Sp : List α → Prop} {w0 : World} (hseq : Stirs F (n - 1) P gf lb encs Kp R S Sp w0) (hb0 : Below w0.heap.size w0 w)
    (hKt : ∀ {A B C : World}, Kp A B → Kp B C → Kp A C) (hKb : ∀ (W : World) (l : Nat) (o o' : Obj), w.heap.size ≤ l → W.heap[l]? = some o → o.isCells = false → o.isWalk = false → Kp W (W.putObj l o'))
    (hRk : ∀ X Y, R X Y → ∀ (k : Nat) (o : Obj), w.heap.size ≤ k → X.heap[k]? = some o → o.isCells = false → Y.heap[k]? = some o) (hps : ∀ x, (encs x).size = ps.size)
    (I : List α → World → Prop) (Ix : Code → List α → World → Prop) (hI : OwnFrom w.heap.size I) (hIR : Stands R I) (hIx : ∀ c, OwnFrom w.heap.size (Ix c)) (hIxR : ∀ c, Stands R (Ix c)) (h0 : I [] w) (a₁ : α → Act)
    (hassign : ∀ (l : Nat) (x : α) (W : World) (K : Act → World → Prop), K (a₁ x) W →
      assign.wpIn (F.inRound l) (n - 1 - 1) P (Exit.then K (fun _ _ _ => False)) { tmps := (ps.zip (encs x)).foldl (fun t (p, v) => t.setIfInBounds p v) a.tmps, defers := [] } W)
    (hbody : ∀ (l : Nat) (pre : List α) (x : α) (W : World), Sp (pre ++ [x]) → I pre W → body.wpIn (F.inRound l) (n - 1 - 1) P (ownPostG w.heap.size Kp I Ix (pre ++ [x]) W) (a₁ x) W)
    (hdone : ∀ (D : Nat) (xs : List α) (W : World), w.heap.size ≤ D → S xs → I xs W → W.heap[D]? = some (.deferred (some [])) → Q .normal { a with defers := { target := .collected D, args := #[] } :: a.defers } W)
    (hstop : ∀ (D : Nat) (c : Code) (pre : List α) (W : World), w.heap.size ≤ D → Sp pre → Ix c pre W → W.heap[D]? = some (.deferred (some [])) → c.wpIn F n P Q { a with defers := { target := .collected D, args := #[] } :: a.defers } W) :
    (Code.rangeFunc g ps assign body).wpIn F n P Q a w := by
  refine wpIn_rangeFunc fun fn hfn => ?_
  rw [hro]
  obtain ⟨mk, hmk⟩ : ∃ mk : LoopState → Option Code → Loop, mk = fun st pe => { state := st, pending := pe, fn, tmps := a.tmps, params := ps, assign, body, defers := w.heap.size } := ⟨_, rfl⟩
  obtain ⟨V, hV⟩ : ∃ V, V = (w.alloc (.deferred (some []))).alloc (.loop (mk .ready none)) := ⟨_, rfl⟩
  have hIV : I [] V := by rw [hV]; exact hI.alloc _ (hI.alloc _ h0)
  have hwV : Below w.heap.size w V := by rw [hV]; exact ((Below.refl _ w).alloc (Nat.le_refl _) _).alloc (by simp) _
  have hrV : Recd w.heap.size (mk .ready none) V := by
    rw [hV]
    refine ⟨?_, (Below.heap_alloc _ _ _ (by simp)).trans (World.alloc_heap_new w _)⟩
    have := World.alloc_heap_new (w.alloc (.deferred (some []))) (.loop (mk .ready none))
    rwa [World.size_alloc] at this
  -- one round
  have round : ∀ (pre : List α) (x : α) (W : World), Sp (pre ++ [x]) → I pre W → Recd w.heap.size (mk .ready none) W →
      YieldAt F (n - 1 - 1) P (w.heap.size + 1) (encs x) W fun e W' => (e = .returned (.bool true) ∧ (I (pre ++ [x]) W' ∧ Recd w.heap.size (mk .ready none) W') ∧ Kp W W') ∨ (e = .returned (.bool false) ∧ ∃ c, Ix c (pre ++ [x]) W' ∧ Recd w.heap.size (mk .done (some c)) W') := by
    intro pre x W hsp hi hr
    have hy := run_yield (P := P) (args := encs x) hr.1 (by rw [hmk]; exact hps x)
    rw [hmk] at hy
    have hbeg := run_beginRound (P := P) hr.1 (by rw [hmk])
    have hbusy : Recd w.heap.size (mk .busy none) (W.putObj (w.heap.size + 1) (.loop (mk .busy none))) := hr.put
    have hbe : ({ mk .ready none with state := .busy } : Loop) = mk .busy none := by rw [hmk]
    rw [hbe] at hbeg
    have hkp := hKb W (w.heap.size + 1) _ (.loop (mk .busy none)) (by omega) hr.1 rfl rfl
    -- a round's end, by a jump or none
    have close : ∀ (jump : Option Code) (st : LoopState), (if jump.isNone then LoopState.ready else .done) = st → ∀ Z, Recd w.heap.size (mk .busy none) Z → (Instr.endRound (w.heap.size + 1) jump).run P Z = .ok (.bool jump.isNone) (Z.putObj (w.heap.size + 1) (.loop (mk st jump))) ∧ Recd w.heap.size (mk st jump) (Z.putObj (w.heap.size + 1) (.loop (mk st jump))) := by
      intro jump st hst Z hz
      have he := run_endRound (P := P) jump hz.1
      have hee : ({ mk .busy none with state := if jump.isNone then .ready else .done, pending := jump } : Loop) = mk st jump := by rw [hmk, ← hst]
      rw [hee] at he
      exact ⟨he, hz.put⟩
    have leave : ∀ (c : Code) (Z : World), KeepsFrom w.heap.size (W.putObj (w.heap.size + 1) (.loop (mk .busy none))) Z → Ix c (pre ++ [x]) Z → ∃ v Z', (Instr.endRound (w.heap.size + 1) (some c)).run P Z = .ok v Z' ∧ v = .bool false ∧ ∃ c, Ix c (pre ++ [x]) Z' ∧ Recd w.heap.size (mk .done (some c)) Z' := by
      intro c Z hk hx
      have hz := hbusy.keeps hk
      obtain ⟨he, hz'⟩ := close (some c) .done rfl Z hz
      exact ⟨_, _, he, rfl, c, (hIx c).putObj _ hx (by omega) hz.1 rfl, hz'⟩
    refine ⟨fn, _, assign, body, hy, roundIn_of_wpIn hfn (hassign _ x W _ ⟨_, hbeg, wpIn_mono (hbody _ pre x _ hsp (hI.putObj _ hi (by omega) hr.1 rfl)) ?_⟩)⟩
    intro e a3 Z hp
    cases e with
    | normal =>
      obtain ⟨hk, hkz, hiz⟩ := hp
      have hz := hbusy.keeps hk
      obtain ⟨he, hz'⟩ := close none .ready rfl Z hz
      exact ⟨_, _, he, .inl ⟨rfl, ⟨hI.putObj _ hiz (by omega) hz.1 rfl, hz'⟩, hKt (hKt hkp hkz) (hKb Z (w.heap.size + 1) _ _ (by omega) hz.1 rfl rfl)⟩⟩
    | ret => obtain ⟨v, Z', he, rfl, hx⟩ := leave .ret Z hp.1 hp.2; exact ⟨_, _, he, .inr ⟨rfl, hx⟩⟩
    | exit id => obtain ⟨v, Z', he, rfl, hx⟩ := leave (.exit id) Z hp.1 hp.2; exact ⟨_, _, he, .inr ⟨rfl, hx⟩⟩
    | goto t => obtain ⟨v, Z', he, rfl, hx⟩ := leave (.goto t) Z hp.1 hp.2; exact ⟨_, _, he, .inr ⟨rfl, hx⟩⟩
    | panic ch => exact hp.elim
    | outgrown => exact hp.elim
  have hcall := hseq (w.heap.size + 1) (fun pre W => I pre W ∧ Recd w.heap.size (mk .ready none) W) (fun pre W => ∃ c, Ix c pre W ∧ Recd w.heap.size (mk .done (some c)) W) V
    (hb0.trans (hwV.mono hb0.size)) (fun s X Y hs hr => ⟨hIR s X Y hs.1 hr, hs.2.step (hRk X Y hr)⟩) (fun s X Y ⟨c, h1, h2⟩ hr => ⟨c, hIxR c s X Y h1 hr, h2.step (hRk X Y hr)⟩)
    (fun pre x W hsp hj => round pre x W hsp hj.1 hj.2) ⟨hIV, hrV⟩
  refine ⟨w.heap.size + 1, [{ target := .collected w.heap.size, args := #[] }], V, { target := .fn (.func gf) lb, args := #[.func (.yield (w.heap.size + 1)) #[] #[]] }, V, gf, #[.func (.yield (w.heap.size + 1)) #[] #[]] ++ lb, V, ?_, ?_, ?_, ?_, fun _ => h1, ?_⟩
  · rw [hV, hmk]; exact run_enterLoop_outer _ _ _ _ _
  · simp only [resolve, hg]; simp [go_sem]
  · intro f' hf'
    simp [Target.leads] at hf'
    subst hf'; exact hFg
  · simp [invoke, go_sem, eg]
  · -- behind the iterator
    refine hcall.mono ?_
    have shut : ∀ (r : Loop), r.state ≠ .busy → ∀ Z, Recd w.heap.size r Z → (Instr.endLoop (w.heap.size + 1)).run P Z = .ok r.pending (Z.putObj (w.heap.size + 1) (.loop { r with state := .exhausted })) := fun r hb Z hz => run_endLoop hz.1 hb
    rintro e Z ⟨⟨v, rfl⟩, ⟨xs, hS, hi, hz⟩ | ⟨pre, hSp, c, hx, hz⟩⟩
    · exact ⟨none, _, by have := shut _ (by rw [hmk]; simp) Z hz; rw [hmk] at this; exact this, hdone _ xs _ (Nat.le_refl _) hS (hI.putObj _ hi (by omega) hz.1 rfl) ((World.putObj_heap_other (by omega)).trans hz.2)⟩
    · exact ⟨some c, _, by have := shut _ (by rw [hmk]; simp) Z hz; rw [hmk] at this; exact this, hstop _ c pre _ (Nat.le_refl _) hSp ((hIx c).putObj _ hx (by omega) hz.1 rfl) ((World.putObj_heap_other (by omega)).trans hz.2)⟩
end
end Go.Proofs.YtflidfmpmakggaaGreatDoor
