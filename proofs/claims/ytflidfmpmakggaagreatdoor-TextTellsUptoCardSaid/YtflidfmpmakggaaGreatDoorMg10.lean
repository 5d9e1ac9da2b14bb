/- Parts: TpA, RfR, RefB, RefC, RefD, RefE, RefW, RefF, RfS. -/
import Derived.Test.YtflidfmpmakggaaGreatDoorMg09
import Derived.Test.YtflidfmpmakggaaGreatDoorMg05
import Derived.Test.YtflidfmpmakggaaGreatDoorMg07
import Derived.Deep.RegionHeld3
import Derived.Deep.DeepCutAuto
import Derived.Test.YtflidfmpmakggaaGreatDoorMg06
import Derived.Test.YtflidfmpmakggaaGreatDoorMg04
/- Contract: text.Print: a graph as text. Conditions: what the library's texts lean on (TxP). -/
namespace Go.Proofs.YtflidfmpmakggaaGreatDoor
open Go Go.RowKit

theorem Bld.lt {B b : Nat} {l : List UInt8} {w : World} (h : Bld B b l w) : b < w.heap.size := h.elim (fun x => x.lt) (fun x => x.lt)
theorem nod_line (a kd s : ByteArray) (d : Nod) (h1 : a = bs (Lib.itoa d.id)) (h2 : kd = d.kind) (h3 : s = bs (recT d.props)) : (⟨#[110, 111, 100, 101, 32]⟩ ++ a ++ ⟨#[32]⟩ ++ kd ++ ⟨#[32]⟩ ++ s ++ ⟨#[10]⟩ : ByteArray) = bs (nodT d) := by
  subst h1 h2 h3
  show bs [110, 111, 100, 101, 32] ++ bs (Lib.itoa d.id) ++ bs [32] ++ d.kind ++ bs [32] ++ bs (recT d.props) ++ bs [10] = _
  conv => lhs; rw [← bs_of d.kind]
  rw [bs_append, bs_append, bs_append, bs_append, bs_append, bs_append]
  rfl
theorem tie_line (b a c : ByteArray) (d : Tie) (h1 : b = d.bond) (h2 : a = bs (Lib.itoa d.src)) (h3 : c = bs (Lib.itoa d.dst)) : (⟨#[116, 105, 101, 32]⟩ ++ b ++ ⟨#[32]⟩ ++ a ++ ⟨#[32]⟩ ++ c ++ ⟨#[10]⟩ : ByteArray) = bs (tieT2 d) := by
  subst h1 h2 h3
  show bs [116, 105, 101, 32] ++ d.bond ++ bs [32] ++ bs (Lib.itoa d.src) ++ bs [32] ++ bs (Lib.itoa d.dst) ++ bs [10] = _
  conv => lhs; rw [← bs_of d.bond]
  rw [bs_append, bs_append, bs_append, bs_append, bs_append, bs_append]
  rfl
theorem id_range {n : Int} (h : idB n = true) : -9223372036854775808 ≤ n ∧ n ≤ 9223372036854775807 := by
  unfold idB at h
  simp at h
  omega
set_option maxRecDepth 100000 in
set_option maxHeartbeats 8000000 in
theorem tprint_any (g : Grf) (vn vt : Value) (w : World) (hT : TxP w) (hg : GrfR w vn vt g) :
    Calls Tryz.prog 9 #[.agg #[vn, vt]] w fun e w' => e = .returned (.tuple #[.string (bs (if grfE g = 0 then grfT g else [])), errV (grfE g)]) ∧ Below w.heap.size w w' := by
  obtain ⟨A1, c1, rfl, _, _⟩ := hg.1.form
  obtain ⟨A2, c2, rfl, _, _⟩ := hg.2.form
  have hb0 : Below w.heap.size w (w.alloc (.cells #[.slice A1 g.nodes.length c1, .slice A2 g.ties.length c2] 25)) := (Below.refl _ _).alloc (Nat.le_refl _) _
  obtain ⟨x0, x1⟩ := cell_box2 w (.slice A1 g.nodes.length c1) (.slice A2 g.ties.length c2) 25
  have HG := Lib.hid (hg.below hb0)
  have HT := Lib.hid (hT.below hb0)
  have hx := grfCheck_any g _ _ _ (hg.below hb0)
  have HOK : Hid (grfE g = 0 → g.nodes.length ≤ 60 ∧ g.ties.length ≤ 120 ∧ (∀ n ∈ g.nodes, nodE n = 0) ∧ ∀ t ∈ g.ties, tieE t = 0) := fun h =>
    ⟨(grf_ok h).1, (grf_ok h).2.1, fun n hn => ((grf_ok h).2.2.2 n hn).2, fun t ht => (grf_ties h).2 t ht⟩
  obtain ⟨R, hR⟩ : ∃ R, R = (if grfE g = 0 then grfT g else []) := ⟨_, rfl⟩
  rw [← hR]
  have HR := Lib.hid hR
  generalize grfE g = ee at *
  clear hg hT hR
  go_enter Tryz.func9, Tryz.ntmps9
  go_wp2_with fail
  generalize w.alloc (.cells #[.slice A1 g.nodes.length c1, .slice A2 g.ties.length c2] 25) = W0 at *
  have X0 := Lib.hid x0
  have X1 := Lib.hid x1
  refine hx.mono ?_
  clear hx x0 x1
  rintro e w1 ⟨rfl, hb1⟩
  have hB1 := hb0.trans (hb1.mono hb0.size)
  by_cases hz : ee = 0
  case neg =>
    have HE : Hid (R = []) := by unfold Hid; rw [HR.out, if_neg hz]
    rw [errV_some hz]
    clear HR HOK
    go_wp2_with fail
    go_ret2
    exact ⟨by rw [HE.out, errV_some hz]; rfl, hB1⟩
  rw [errV_zero hz]
  have HE : Hid (R = g.nodes.flatMap nodT ++ g.ties.flatMap tieT2) := by unfold Hid; rw [HR.out, if_pos hz]; rfl
  obtain ⟨hnl, htl, hno, hto⟩ := HOK.out hz
  have HNO : Hid (∀ n ∈ g.nodes, nodE n = 0) := hno
  have HTO : Hid (∀ t ∈ g.ties, tieE t = 0) := hto
  have HZ := Lib.hid hz
  obtain ⟨B, hBe⟩ : ∃ B, B = W0.heap.size := ⟨_, rfl⟩
  have hBz : B ≤ w1.heap.size := by rw [hBe]; exact hb1.size
  have hbl1 := Bld.fresh hBz
  have ha1 : Below B W0 (w1.alloc (.cells #[.pointer none, .slice none 0 0] 110)) := by rw [hBe]; exact hb1.alloc hb1.size _
  have hs2 : B ≤ (w1.alloc (.cells #[.pointer none, .slice none 0 0] 110)).heap.size := by simp; omega
  obtain ⟨bb, hbb⟩ : ∃ bb, bb = w1.heap.size := ⟨_, rfl⟩
  have x0 := cell_below (by rw [← hBe]; exact ha1) X0.out
  clear hz HR HOK hno hto hb1 hB1
  go_wp2_with fail
  rw [← hbb]
  rw [← hbb] at hbl1
  generalize w1.alloc (.cells #[.pointer none, .slice none 0 0] 110) = w2 at *
  clear hbb hBz x0
  go_loopw [7, 8, 9, 20] (fun _ _ _ i wr => ∃ k : Nat, k ≤ g.nodes.length ∧ i = .int .i64 k ∧ Below B W0 wr ∧ B ≤ wr.heap.size ∧ Hid (Bld B bb ((g.nodes.take k).flatMap nodT) wr)) (fun _ _ _ i _ => g.nodes.length - (intOf i).toNat)
  case atStart => exact ⟨0, Nat.zero_le _, rfl, ha1, hs2, by rw [List.take_zero]; exact hbl1⟩
  case round =>
    clear hbl1 ha1 hs2
    obtain ⟨k, hk, rfl, hbr, hBr, HB⟩ := hrel
    have hbr' : Below W0.heap.size W0 wr := by rw [← hBe]; exact hbr
    obtain ⟨wo, hwo⟩ : ∃ wo : World, wo = wr := ⟨_, rfl⟩
    subst hwo
    by_cases hlt : k < g.nodes.length
    · obtain ⟨d, hd⟩ : ∃ d, g.nodes[k]? = some d := ⟨_, List.getElem?_eq_getElem hlt⟩
      have hlt' : (k : Int) < (g.nodes.length : Int) := by omega
      obtain ⟨gb, o, rfl, u, _, _, hu, q0, q1, q2⟩ := nod_at (HG.out.below hbr').1 hd
      obtain ⟨Au, cu, rfl, _, _⟩ := hu.form
      have hmem := List.mem_of_getElem? hd
      have hne := HNO.out d hmem
      obtain ⟨hid, hnm, hre⟩ := nod_parts2 hne
      have hrl := rec_len hre
      have hnl8 := name_len hnm
      have hil := itoa_id hid
      obtain ⟨i1, i2⟩ := id_range hid
      have HST : Hid ((g.nodes.take (k + 1)).flatMap nodT = (g.nodes.take k).flatMap nodT ++ nodT d) := by
        unfold Hid; rw [List.take_add_one, hd, List.flatMap_append]; simp
      have hpl : ((g.nodes.take k).flatMap nodT).length ≤ 60 * 450 := by
        have h1 := flatMap_len (f := nodT) (m := 450) (l := g.nodes.take k) fun y hy => nod_len (HNO.out y (List.mem_of_mem_take hy))
        have h2 : (g.nodes.take k).length ≤ 60 := by rw [List.length_take]; omega
        exact Nat.le_trans h1 (Nat.mul_le_mul h2 (Nat.le_refl _))
      have hnT := nod_len hne
      have hbk := heap_alloc_new wo (.cells #[.int .i64 d.id, .string d.kind, .slice Au d.props.length cu] 98)
      have ha := (Below.refl wo.heap.size wo).alloc (Nat.le_refl _) (.cells #[.int .i64 d.id, .string d.kind, .slice Au d.props.length cu] 98)
      have hx := rprint_any d.props (.slice Au d.props.length cu) _ (hu.below ha) ((HT.out.below hbr').below ha)
      rw [hre, if_pos rfl, errV_zero rfl] at hx
      have HLN : Hid ((⟨#[110, 111, 100, 101, 32]⟩ ++ ⟨(Lib.itoa d.id).toArray⟩ ++ ⟨#[32]⟩ ++ d.kind ++ ⟨#[32]⟩ ++ bs (recT d.props) ++ ⟨#[10]⟩ : ByteArray) = bs (nodT d)) := nod_line _ _ _ d rfl rfl rfl
      have hss : (bs (recT d.props)).size ≤ 417 := by rw [bs_size]; exact hrl
      have his : (⟨(Lib.itoa d.id).toArray⟩ : ByteArray).size ≤ 10 := by
        have : (⟨(Lib.itoa d.id).toArray⟩ : ByteArray).size = (Lib.itoa d.id).length := bs_size _
        omega
      have hks : d.kind.size ≤ 8 := by rw [Array.length_toList] at hnl8; exact hnl8
      have HIT := Lib.hid (fun wx (h : TxP wx) => tx_itoa d.id i1 i2 wx h.tab)
      generalize bs (recT d.props) = sr at *
      generalize (⟨(Lib.itoa d.id).toArray⟩ : ByteArray) = it at *
      have hnd : (bs (nodT d)).size ≤ 450 := by rw [bs_size]; exact hnT
      have hbl : (bs (nodT d)).data.toList = nodT d := bs_list _
      have HBL := Lib.hid hbl
      clear hd hu hmem hne hid hnm hre hrl hnl8 hil hnT hbl
      go_upto_region 8 with fail
      generalize wo.alloc (.cells #[.int .i64 d.id, .string d.kind, .slice Au d.props.length cu] 98) = w3 at *
      clear q0 q1 q2
      have z0 := block_cell hbk 0
      have z1 := block_cell hbk 1
      have z2 := block_cell hbk 2
      go_wp2_with fail
      refine hx.mono ?_
      clear hx
      rintro e w4 ⟨rfl, hb4⟩
      have hb14 := ha.trans (hb4.mono ha.size)
      have z0 := cell_below hb4 z0
      have z1 := cell_below hb4 z1
      have hbk4 := (hb4.block _ (Array.getElem?_eq_some_iff.1 hbk).1).trans hbk
      have hB4 := hbr.trans (hb14.mono hBr)
      have hs4 : B ≤ w4.heap.size := Nat.le_trans hBr hb14.size
      have hT4 := (HT.out.below hbr').below hb14
      have HB4 := Lib.hid (HB.out.below hb14)
      have hd4 : Below w4.heap.size w4 w4.drew := (Below.refl _ _).drew
      have HI := Lib.hid (HIT.out w4.drew (hT4.below hd4))
      have hkeep := And.intro (cell_below hd4 z0) (cell_below hd4 z1)
      have hbn : wo.heap.size ≠ bb := by have := Bld.lt HB.out; omega
      have HBK := Lib.hid hbk4
      have hc1 : ¬ 9223372036854775807 < 5 + it.size := by omega
      have hc2 : ¬ 9223372036854775807 < 5 + it.size + 1 := by omega
      have hc3 : ¬ 9223372036854775807 < 5 + it.size + 1 + d.kind.size := by omega
      have hc4 : ¬ 9223372036854775807 < 5 + it.size + 1 + d.kind.size + 1 := by omega
      have hc5 : ¬ 9223372036854775807 < 5 + it.size + 1 + d.kind.size + 1 + sr.size := by omega
      have hc6 : ¬ 9223372036854775807 < 5 + it.size + 1 + d.kind.size + 1 + sr.size + 1 := by omega
      clear z2 hbk hbk4 hb4 HIT hT4 HB ha
      go_wp2_with fail
      go_region_held3 (fun w' => w'.cell? ⟨wo.heap.size, 0, none⟩ = some (.int .i64 d.id) ∧ w'.cell? ⟨wo.heap.size, 1, none⟩ = some (.string d.kind))
        (first
          | exact hkeep
          | go_keep)
        (first
          | (go_at_call 49
             refine HI.out.mono ?_
             rintro e w5 ⟨rfl, hb5⟩
             have hb45 := hd4.trans (hb5.mono hd4.size)
             have hkeep := And.intro (cell_below hb45 z0) (cell_below hb45 z1)
             have hs5 : B ≤ w5.heap.size := Nat.le_trans hs4 hb45.size
             have hx := tx_writeK B bb _ (⟨#[110, 111, 100, 101, 32]⟩ ++ it ++ ⟨#[32]⟩ ++ d.kind ++ ⟨#[32]⟩ ++ sr ++ ⟨#[10]⟩) w5 (HB4.out.below hb45) (by rw [HLN.out]; omega) hs5)
          | (go_at_call 48
             refine hx.mono ?_
             rintro e w7 ⟨rfl, hB7, hb7, hk7⟩
             have hbk7 := hk7 _ _ ((hb45.block _ (Array.getElem?_eq_some_iff.1 HBK.out).1).trans HBK.out) (fun e => hbn (by injection e)) (fun c fz e => by injection e with _ e _; cases e)
             have hkeep := And.intro (block_cell hbk7 0) (block_cell hbk7 1)))
      all_goals
        have hD9 : Hid (Bld B bb ((g.nodes.take (k + 1)).flatMap nodT) w7) := by
          rw [HLN.out, HBL.out, ← HST.out] at hB7
          exact hB7
        have hB9b : Below B W0 w7 := (hB4.trans (hb45.mono hs4)).trans hb7
        have hs9 : B ≤ w7.heap.size := Nat.le_trans hs5 hb7.size
        clear hkeep hB7 hk7 hbk7 hb7
        go_wp2_with fail
        go_roundw
        case rel => exact ⟨k + 1, by omega, by go_num, hB9b, hs9, hD9⟩
        case measure => simp [intOf]; omega
    · obtain rfl : k = g.nodes.length := by omega
      have hB2 : Hid (Bld B bb (g.nodes.flatMap nodT ++ (g.ties.take 0).flatMap tieT2) wo) := by
        have := HB.out
        rw [List.take_length] at this
        unfold Hid; rw [List.take_zero]
        show Bld B bb (g.nodes.flatMap nodT ++ []) wo
        rw [List.append_nil]; exact this
      have hpl : (g.nodes.flatMap nodT).length ≤ 60 * 450 := by
        have h1 := flatMap_len (f := nodT) (m := 450) (l := g.nodes) fun y hy => nod_len (HNO.out y hy)
        exact Nat.le_trans h1 (Nat.mul_le_mul hnl (Nat.le_refl _))
      have hRT : Hid (R = g.nodes.flatMap nodT ++ g.ties.flatMap tieT2) := HE.out
      generalize g.nodes.flatMap nodT = Lk at *
      have x1 := cell_below hbr' X1.out
      clear HB hlt hk HE
      go_wp2_with fail
      clear x1
      go_loopw [11, 50] (fun _ i wr => ∃ k : Nat, k ≤ g.ties.length ∧ i = .int .i64 k ∧ Below B W0 wr ∧ B ≤ wr.heap.size ∧ Hid (Bld B bb (Lk ++ (g.ties.take k).flatMap tieT2) wr)) (fun _ i _ => g.ties.length - (intOf i).toNat)
      case atStart => exact ⟨0, Nat.zero_le _, rfl, hbr, hBr, hB2⟩
      case round =>
        clear hB2 hbr hBr hbr'
        obtain ⟨k, hk, rfl, hbr, hBr, HB⟩ := hrel
        have hbr' : Below W0.heap.size W0 wr := by rw [← hBe]; exact hbr
        by_cases hlt : k < g.ties.length
        · obtain ⟨d, hd⟩ : ∃ d, g.ties[k]? = some d := ⟨_, List.getElem?_eq_getElem hlt⟩
          have hlt' : (k : Int) < (g.ties.length : Int) := by omega
          obtain ⟨gb, o, rfl, _, q0, q1, q2⟩ := tie_at (HG.out.below hbr').2 hd
          have hmem := List.mem_of_getElem? hd
          have hte := HTO.out d hmem
          obtain ⟨hnm, hid1, hid2⟩ := tie_parts2 hte
          have hnl8 := name_len hnm
          have hil1 := itoa_id hid1
          have hil2 := itoa_id hid2
          obtain ⟨i1, i2⟩ := id_range hid1
          obtain ⟨i3, i4⟩ := id_range hid2
          have HST : Hid ((g.ties.take (k + 1)).flatMap tieT2 = (g.ties.take k).flatMap tieT2 ++ tieT2 d) := by
            unfold Hid; rw [List.take_add_one, hd, List.flatMap_append]; simp
          have hpl2 : ((g.ties.take k).flatMap tieT2).length ≤ 120 * 450 := by
            have h1 := flatMap_len (f := tieT2) (m := 450) (l := g.ties.take k) fun y hy => tie_len2 (HTO.out y (List.mem_of_mem_take hy))
            have h2 : (g.ties.take k).length ≤ 120 := by rw [List.length_take]; omega
            exact Nat.le_trans h1 (Nat.mul_le_mul h2 (Nat.le_refl _))
          have hnT := tie_len2 hte
          have hbk := heap_alloc_new wr (.cells #[.string d.bond, .int .i64 d.src, .int .i64 d.dst] 102)
          have ha := (Below.refl wr.heap.size wr).alloc (Nat.le_refl _) (.cells #[.string d.bond, .int .i64 d.src, .int .i64 d.dst] 102)
          have HLN : Hid ((⟨#[116, 105, 101, 32]⟩ ++ d.bond ++ ⟨#[32]⟩ ++ ⟨(Lib.itoa d.src).toArray⟩ ++ ⟨#[32]⟩ ++ ⟨(Lib.itoa d.dst).toArray⟩ ++ ⟨#[10]⟩ : ByteArray) = bs (tieT2 d)) := tie_line _ _ _ d rfl rfl rfl
          have his1 : (⟨(Lib.itoa d.src).toArray⟩ : ByteArray).size ≤ 10 := by
            have : (⟨(Lib.itoa d.src).toArray⟩ : ByteArray).size = (Lib.itoa d.src).length := bs_size _
            omega
          have his2 : (⟨(Lib.itoa d.dst).toArray⟩ : ByteArray).size ≤ 10 := by
            have : (⟨(Lib.itoa d.dst).toArray⟩ : ByteArray).size = (Lib.itoa d.dst).length := bs_size _
            omega
          have hks : d.bond.size ≤ 8 := by rw [Array.length_toList] at hnl8; exact hnl8
          have HIT1 := Lib.hid (fun wx (h : TxP wx) => tx_itoa d.src i1 i2 wx h.tab)
          have HIT2 := Lib.hid (fun wx (h : TxP wx) => tx_itoa d.dst i3 i4 wx h.tab)
          generalize (⟨(Lib.itoa d.src).toArray⟩ : ByteArray) = it1 at *
          generalize (⟨(Lib.itoa d.dst).toArray⟩ : ByteArray) = it2 at *
          have hnd : (bs (tieT2 d)).size ≤ 450 := by rw [bs_size]; exact hnT
          have hbl : (bs (tieT2 d)).data.toList = tieT2 d := bs_list _
          have HBL := Lib.hid hbl
          have hB4 := hbr.trans (ha.mono hBr)
          have hs4 : B ≤ (wr.alloc (.cells #[.string d.bond, .int .i64 d.src, .int .i64 d.dst] 102)).heap.size := Nat.le_trans hBr ha.size
          have hT4 := (HT.out.below hbr').below ha
          have HB4 := Lib.hid (HB.out.below ha)
          have hbn : wr.heap.size ≠ bb := by have := Bld.lt HB.out; omega
          clear hd hmem hte hnm hid1 hid2 hnl8 hil1 hil2 hnT hbl
          go_upto_region 16 with fail
          generalize wr.alloc (.cells #[.string d.bond, .int .i64 d.src, .int .i64 d.dst] 102) = w4 at *
          clear q0 q1 q2
          have z0 := block_cell hbk 0
          have z1 := block_cell hbk 1
          have z2 := block_cell hbk 2
          have hd4 : Below w4.heap.size w4 w4.drew := (Below.refl _ _).drew
          have HT4 := Lib.hid (hT4.below hd4)
          have HI1 := Lib.hid (HIT1.out w4.drew (hT4.below hd4))
          have hkeep := And.intro (cell_below hd4 z0) (And.intro (cell_below hd4 z1) (cell_below hd4 z2))
          have HBK := Lib.hid hbk
          have hc1 : ¬ 9223372036854775807 < 4 + d.bond.size := by omega
          have hc2 : ¬ 9223372036854775807 < 4 + d.bond.size + 1 := by omega
          have hc3 : ¬ 9223372036854775807 < 4 + d.bond.size + 1 + it1.size := by omega
          have hc4 : ¬ 9223372036854775807 < 4 + d.bond.size + 1 + it1.size + 1 := by omega
          have hc5 : ¬ 9223372036854775807 < 4 + d.bond.size + 1 + it1.size + 1 + it2.size := by omega
          have hc6 : ¬ 9223372036854775807 < 4 + d.bond.size + 1 + it1.size + 1 + it2.size + 1 := by omega
          clear hbk HIT1 hT4 HB ha
          go_wp2_with fail
          go_region_held3 (fun w' => w'.cell? ⟨wr.heap.size, 0, none⟩ = some (.string d.bond) ∧ w'.cell? ⟨wr.heap.size, 1, none⟩ = some (.int .i64 d.src) ∧ w'.cell? ⟨wr.heap.size, 2, none⟩ = some (.int .i64 d.dst))
            (first
              | exact hkeep
              | go_keep)
            (first
              | (go_at_call 49
                 with_reducible refine HI1.out.mono ?_
                 rintro e w5 ⟨rfl, hb5⟩
                 have hb45 := hd4.trans (hb5.mono hd4.size)
                 have hkeep := And.intro (cell_below hb45 z0) (And.intro (cell_below hb45 z1) (cell_below hb45 z2))
                 have HI2 := Lib.hid (HIT2.out w5 (HT4.out.below hb5)))
              | (go_at_call 49
                 with_reducible refine HI2.out.mono ?_
                 rintro e w6 ⟨rfl, hb6⟩
                 have hb46 := hb45.trans (hb6.mono hb45.size)
                 have hkeep := And.intro (cell_below hb46 z0) (And.intro (cell_below hb46 z1) (cell_below hb46 z2))
                 have hs6 : B ≤ w6.heap.size := Nat.le_trans hs4 hb46.size
                 have hx := tx_writeK B bb _ (⟨#[116, 105, 101, 32]⟩ ++ d.bond ++ ⟨#[32]⟩ ++ it1 ++ ⟨#[32]⟩ ++ it2 ++ ⟨#[10]⟩) w6 (HB4.out.below hb46) (by rw [HLN.out, List.length_append]; omega) hs6)
              | (go_at_call 48
                 refine hx.mono ?_
                 rintro e w7 ⟨rfl, hB7, hb7, hk7⟩
                 have hbk7 := hk7 _ _ ((hb46.block _ (Array.getElem?_eq_some_iff.1 HBK.out).1).trans HBK.out) (fun e => hbn (by injection e)) (fun c fz e => by injection e with _ e _; cases e)
                 have hkeep := And.intro (block_cell hbk7 0) (And.intro (block_cell hbk7 1) (block_cell hbk7 2))))
          all_goals
            have hD9 : Hid (Bld B bb (Lk ++ (g.ties.take (k + 1)).flatMap tieT2) w7) := by
              rw [HLN.out, HBL.out, List.append_assoc, ← HST.out] at hB7
              exact hB7
            have hB9b : Below B W0 w7 := (hB4.trans (hb46.mono hs4)).trans hb7
            have hs9 : B ≤ w7.heap.size := Nat.le_trans hs6 hb7.size
            clear hkeep hB7 hk7 hbk7 hb7
            go_wp2_with fail
            go_roundw
            case rel => exact ⟨k + 1, by omega, by go_num, hB9b, hs9, hD9⟩
            case measure => simp [intOf]; omega
        · obtain rfl : k = g.ties.length := by omega
          have hBF : Hid (Bld B bb R wr) := by unfold Hid; rw [hRT.out]; have := HB.out; rw [List.take_length] at this; exact this
          have hx := tx_string B bb R wr hBF.out hBr
          have hbX : Hid (∀ w', Below B wr w' → Below w.heap.size w w') := fun w' h => hb0.trans ((hbr'.trans (by rw [hBe] at h; exact h)).mono hb0.size)
          clear hBF HB
          go_wp2_with fail
          refine hx.mono ?_
          clear hx
          rintro e w9 ⟨rfl, hb9⟩
          go_wp2_with fail
          go_ret2
          exact ⟨by rw [errV_zero HZ.out]; rfl, hbX.out _ hb9⟩

theorem str_any0 {s : ByteArray} (h : ∀ j x, j < s.size → s.data.toList[j]? = some x → strC x = false) : s.data.toList.any strC = false := by
  rw [List.any_eq_false]
  intro x hx
  obtain ⟨j, hj⟩ := List.mem_iff_getElem?.1 hx
  have hl := (List.getElem?_eq_some_iff.1 hj).1
  have := h j x (by simpa using hl) hj
  simp [this]
theorem str_any1 {s : ByteArray} {k : Nat} {x : UInt8} (h : s.data.toList[k]? = some x) (hx : strC x = true) : s.data.toList.any strC = true :=
  List.any_eq_true.2 ⟨x, List.mem_of_getElem? h, hx⟩
set_option maxRecDepth 100000 in
set_option maxHeartbeats 4000000 in
theorem rvalue_any (v : Val) (w : World) (hs : Sm v.s) :
    Calls Tryz.prog 79 #[.agg #[.int .i64 v.ty, .int .i64 v.n, .string v.s]] w fun e w' => e = .returned (.int .i64 (valE v)) ∧ Below w.heap.size w w' := by
  obtain ⟨ty, n, s⟩ := v
  have hs : s.size ≤ 1048576 := hs
  have hb0 : Below w.heap.size w (w.alloc (.cells #[.int .i64 ty, .int .i64 n, .string s] 70)) := (Below.refl _ _).alloc (Nat.le_refl _) _
  have HF : Hid (valE ⟨ty, n, s⟩ = if ty = 1 ∨ ty = 2 ∨ ty = 3 then (if n < valLo ty ∨ valHi ty < n then 1 else if ty = 3 ∧ 20 < s.size then 4 else if s.data.toList.any strC = true ∨ (ty ≠ 3 ∧ s.toList.isEmpty = false) then 2 else 0) else 8) := rfl
  by_cases h0 : ty < 1
  · have HE : Hid (valE ⟨ty, n, s⟩ = 8) := by unfold Hid; rw [HF.out, if_neg (by omega)]
    clear HF
    go_enter Tryz.func79, Tryz.ntmps79
    go_wp2_with fail
    go_ret
    exact ⟨by rw [HE.out]; rfl, hb0⟩
  by_cases h4 : 3 < ty
  · have h0' : 1 ≤ ty := by omega
    have HE : Hid (valE ⟨ty, n, s⟩ = 8) := by unfold Hid; rw [HF.out, if_neg (by omega)]
    clear h0
    clear HF
    go_enter Tryz.func79, Tryz.ntmps79
    go_wp2_with fail
    go_ret
    exact ⟨by rw [HE.out]; rfl, hb0⟩
  have h3 : ty = 1 ∨ ty = 2 ∨ ty = 3 := by omega
  rcases h3 with rfl | rfl | rfl
  · by_cases h1 : n < -1000000
    · have HE : Hid (valE ⟨1, n, s⟩ = 1) := by unfold Hid; rw [HF.out, if_pos (.inl rfl), if_pos (.inl h1)]
      clear h0 h4
      clear HF
      go_enter Tryz.func79, Tryz.ntmps79
      go_wp2_with fail
      go_ret
      exact ⟨by rw [HE.out]; rfl, hb0⟩
    have h1' : -1000000 ≤ n := by omega
    by_cases h2 : 1000000 < n
    · have HE : Hid (valE ⟨1, n, s⟩ = 1) := by unfold Hid; rw [HF.out, if_pos (.inl rfl), if_pos (.inr h2)]
      clear h0 h4 h1
      clear HF
      go_enter Tryz.func79, Tryz.ntmps79
      go_wp2_with fail
      go_ret
      exact ⟨by rw [HE.out]; rfl, hb0⟩
    have h2' : n ≤ 1000000 := by omega
    have HG : Hid (valE ⟨1, n, s⟩ = if s.data.toList.any strC = true ∨ s.toList.isEmpty = false then 2 else 0) := by
      unfold Hid
      rw [HF.out, if_pos (.inl rfl), if_neg (by rintro (h | h); exact h1 h; exact h2 h), if_neg (by omega)]
      simp
    cases he : s.toList.isEmpty with
    | false =>
      have hq : ¬ s.toList = [] := by intro e; rw [e] at he; cases he
      have HE : Hid (valE ⟨1, n, s⟩ = 2) := by unfold Hid; rw [HG.out, if_pos (.inr he)]
      clear h0 h4 h1 h2 HG
      clear HF
      go_enter Tryz.func79, Tryz.ntmps79
      go_wp2_with fail
      go_ret
      exact ⟨by rw [HE.out]; rfl, hb0⟩
    | true =>
      have hq : s.toList = [] := by simpa using he
      have HS1 : Hid (∀ (k : Nat) x, s.data.toList[k]? = some x → strC x = true → valE ⟨1, n, s⟩ = 2) := fun k x hk hx => by rw [HG.out, if_pos (.inl (str_any1 hk hx))]
      have HS0 : Hid ((∀ j x, j < s.size → s.data.toList[j]? = some x → strC x = false) → valE ⟨1, n, s⟩ = 0) := fun h => by rw [HG.out, str_any0 h, he]; rfl
      clear h0 h4 h1 h2 HG HF
      go_enter Tryz.func79, Tryz.ntmps79
      go_wp2_with fail
      go_loop [3] (fun i => ∃ k : Nat, k ≤ s.size ∧ i = .int .i64 k ∧ Hid (∀ j x, j < k → s.data.toList[j]? = some x → strC x = false)) (fun i => s.size - (intOf i).toNat)
      case atStart => exact ⟨0, Nat.zero_le _, rfl, fun j x hj => absurd hj (Nat.not_lt_zero _)⟩
      case round =>
        obtain ⟨k, hk, rfl, HA⟩ := hrel
        by_cases hlt : k < s.size
        · have hlt' : (k : Int) < (s.size : Int) := by omega
          have HB := Lib.hid (bytes_at s k hlt)
          by_cases hlo : (s[k].toNat : Int) < 32
          · have HE : Hid (valE ⟨1, n, s⟩ = 2) := HS1.out _ _ HB.out (by unfold strC; rw [decide_eq_true hlo]; rfl)
            go_wp2_with fail
            go_ret
            exact ⟨by rw [HE.out]; rfl, hb0⟩
          · have hlo' : (32 : Int) ≤ (s[k].toNat : Int) := by omega
            by_cases hhi : (126 : Int) < (s[k].toNat : Int)
            · have HE : Hid (valE ⟨1, n, s⟩ = 2) := HS1.out _ _ HB.out (by unfold strC; rw [decide_eq_true hhi]; simp)
              clear hlo
              go_wp2_with fail
              go_ret
              exact ⟨by rw [HE.out]; rfl, hb0⟩
            · have hhi' : (s[k].toNat : Int) ≤ 126 := by omega
              have HS : Hid (∀ j x, j < k + 1 → s.data.toList[j]? = some x → strC x = false) := miss_step HA.out HB.out (by unfold strC; rw [decide_eq_false hlo, decide_eq_false hhi]; rfl)
              clear hlo hhi
              go_wp2_with fail
              go_round
              case rel => exact ⟨k + 1, by omega, by go_num, HS⟩
              case measure => simp [intOf]; omega
        · obtain rfl : k = s.size := by omega
          have HE : Hid (valE ⟨1, n, s⟩ = 0) := HS0.out HA.out
          go_wp2_with fail
          go_ret
          exact ⟨by rw [HE.out]; rfl, hb0⟩
  · by_cases h1 : n < 0
    · have HE : Hid (valE ⟨2, n, s⟩ = 1) := by unfold Hid; rw [HF.out, if_pos (.inr (.inl rfl)), if_pos (.inl h1)]
      clear h0 h4
      clear HF
      go_enter Tryz.func79, Tryz.ntmps79
      go_wp2_with fail
      go_ret
      exact ⟨by rw [HE.out]; rfl, hb0⟩
    have h1' : 0 ≤ n := by omega
    by_cases h2 : 1 < n
    · have HE : Hid (valE ⟨2, n, s⟩ = 1) := by unfold Hid; rw [HF.out, if_pos (.inr (.inl rfl)), if_pos (.inr h2)]
      clear h0 h4 h1
      clear HF
      go_enter Tryz.func79, Tryz.ntmps79
      go_wp2_with fail
      go_ret
      exact ⟨by rw [HE.out]; rfl, hb0⟩
    have h2' : n ≤ 1 := by omega
    have HG : Hid (valE ⟨2, n, s⟩ = if s.data.toList.any strC = true ∨ s.toList.isEmpty = false then 2 else 0) := by
      unfold Hid
      rw [HF.out, if_pos (.inr (.inl rfl)), if_neg (by rintro (h | h); exact h1 h; exact h2 h), if_neg (by omega)]
      simp
    cases he : s.toList.isEmpty with
    | false =>
      have hq : ¬ s.toList = [] := by intro e; rw [e] at he; cases he
      have HE : Hid (valE ⟨2, n, s⟩ = 2) := by unfold Hid; rw [HG.out, if_pos (.inr he)]
      clear h0 h4 h1 h2 HG
      clear HF
      go_enter Tryz.func79, Tryz.ntmps79
      go_wp2_with fail
      go_ret
      exact ⟨by rw [HE.out]; rfl, hb0⟩
    | true =>
      have hq : s.toList = [] := by simpa using he
      have HS1 : Hid (∀ (k : Nat) x, s.data.toList[k]? = some x → strC x = true → valE ⟨2, n, s⟩ = 2) := fun k x hk hx => by rw [HG.out, if_pos (.inl (str_any1 hk hx))]
      have HS0 : Hid ((∀ j x, j < s.size → s.data.toList[j]? = some x → strC x = false) → valE ⟨2, n, s⟩ = 0) := fun h => by rw [HG.out, str_any0 h, he]; rfl
      clear h0 h4 h1 h2 HG HF
      go_enter Tryz.func79, Tryz.ntmps79
      go_wp2_with fail
      go_loop [3] (fun i => ∃ k : Nat, k ≤ s.size ∧ i = .int .i64 k ∧ Hid (∀ j x, j < k → s.data.toList[j]? = some x → strC x = false)) (fun i => s.size - (intOf i).toNat)
      case atStart => exact ⟨0, Nat.zero_le _, rfl, fun j x hj => absurd hj (Nat.not_lt_zero _)⟩
      case round =>
        obtain ⟨k, hk, rfl, HA⟩ := hrel
        by_cases hlt : k < s.size
        · have hlt' : (k : Int) < (s.size : Int) := by omega
          have HB := Lib.hid (bytes_at s k hlt)
          by_cases hlo : (s[k].toNat : Int) < 32
          · have HE : Hid (valE ⟨2, n, s⟩ = 2) := HS1.out _ _ HB.out (by unfold strC; rw [decide_eq_true hlo]; rfl)
            go_wp2_with fail
            go_ret
            exact ⟨by rw [HE.out]; rfl, hb0⟩
          · have hlo' : (32 : Int) ≤ (s[k].toNat : Int) := by omega
            by_cases hhi : (126 : Int) < (s[k].toNat : Int)
            · have HE : Hid (valE ⟨2, n, s⟩ = 2) := HS1.out _ _ HB.out (by unfold strC; rw [decide_eq_true hhi]; simp)
              clear hlo
              go_wp2_with fail
              go_ret
              exact ⟨by rw [HE.out]; rfl, hb0⟩
            · have hhi' : (s[k].toNat : Int) ≤ 126 := by omega
              have HS : Hid (∀ j x, j < k + 1 → s.data.toList[j]? = some x → strC x = false) := miss_step HA.out HB.out (by unfold strC; rw [decide_eq_false hlo, decide_eq_false hhi]; rfl)
              clear hlo hhi
              go_wp2_with fail
              go_round
              case rel => exact ⟨k + 1, by omega, by go_num, HS⟩
              case measure => simp [intOf]; omega
        · obtain rfl : k = s.size := by omega
          have HE : Hid (valE ⟨2, n, s⟩ = 0) := HS0.out HA.out
          go_wp2_with fail
          go_ret
          exact ⟨by rw [HE.out]; rfl, hb0⟩
  · by_cases h1 : n = 0
    case neg =>
      have hnb : (n != 0) = true := by simpa using h1
      have HE : Hid (valE ⟨3, n, s⟩ = 1) := by
        unfold Hid
        rw [HF.out, if_pos (.inr (.inr rfl)), if_pos]
        have e1 : valLo 3 = 0 := rfl
        have e2 : valHi 3 = 0 := rfl
        rw [e1, e2]; omega
      clear h0 h4 h1
      clear HF
      go_enter Tryz.func79, Tryz.ntmps79
      go_wp2_with fail
      go_ret
      exact ⟨by rw [HE.out]; rfl, hb0⟩
    subst h1
    by_cases h2 : 20 < s.size
    · have h2' : (20 : Int) < (s.size : Int) := by omega
      have HE : Hid (valE ⟨3, 0, s⟩ = 4) := by unfold Hid; rw [HF.out, if_pos (.inr (.inr rfl)), if_neg (by simp [valLo, valHi]), if_pos ⟨rfl, h2⟩]
      clear h0 h4
      clear HF
      go_enter Tryz.func79, Tryz.ntmps79
      go_wp2_with fail
      go_ret
      exact ⟨by rw [HE.out]; rfl, hb0⟩
    have h2' : (s.size : Int) ≤ 20 := by omega
    have HG : Hid (valE ⟨3, 0, s⟩ = if s.data.toList.any strC = true then 2 else 0) := by
      unfold Hid
      rw [HF.out, if_pos (.inr (.inr rfl)), if_neg (by simp [valLo, valHi]), if_neg (by omega)]
      simp
    have HS1 : Hid (∀ (k : Nat) x, s.data.toList[k]? = some x → strC x = true → valE ⟨3, 0, s⟩ = 2) := fun k x hk hx => by rw [HG.out, if_pos (str_any1 hk hx)]
    have HS0 : Hid ((∀ j x, j < s.size → s.data.toList[j]? = some x → strC x = false) → valE ⟨3, 0, s⟩ = 0) := fun h => by rw [HG.out, str_any0 h]; rfl
    clear h0 h4 h2 HG HF
    go_enter Tryz.func79, Tryz.ntmps79
    go_wp2_with fail
    go_loop [3] (fun i => ∃ k : Nat, k ≤ s.size ∧ i = .int .i64 k ∧ Hid (∀ j x, j < k → s.data.toList[j]? = some x → strC x = false)) (fun i => s.size - (intOf i).toNat)
    case atStart => exact ⟨0, Nat.zero_le _, rfl, fun j x hj => absurd hj (Nat.not_lt_zero _)⟩
    case round =>
      obtain ⟨k, hk, rfl, HA⟩ := hrel
      by_cases hlt : k < s.size
      · have hlt' : (k : Int) < (s.size : Int) := by omega
        have HB := Lib.hid (bytes_at s k hlt)
        by_cases hlo : (s[k].toNat : Int) < 32
        · have HE : Hid (valE ⟨3, 0, s⟩ = 2) := HS1.out _ _ HB.out (by unfold strC; rw [decide_eq_true hlo]; rfl)
          go_wp2_with fail
          go_ret
          exact ⟨by rw [HE.out]; rfl, hb0⟩
        · have hlo' : (32 : Int) ≤ (s[k].toNat : Int) := by omega
          by_cases hhi : (126 : Int) < (s[k].toNat : Int)
          · have HE : Hid (valE ⟨3, 0, s⟩ = 2) := HS1.out _ _ HB.out (by unfold strC; rw [decide_eq_true hhi]; simp)
            clear hlo
            go_wp2_with fail
            go_ret
            exact ⟨by rw [HE.out]; rfl, hb0⟩
          · have hhi' : (s[k].toNat : Int) ≤ 126 := by omega
            have HS : Hid (∀ j x, j < k + 1 → s.data.toList[j]? = some x → strC x = false) := miss_step HA.out HB.out (by unfold strC; rw [decide_eq_false hlo, decide_eq_false hhi]; rfl)
            clear hlo hhi
            go_wp2_with fail
            go_round
            case rel => exact ⟨k + 1, by omega, by go_num, HS⟩
            case measure => simp [intOf]; omega
      · obtain rfl : k = s.size := by omega
        have HE : Hid (valE ⟨3, 0, s⟩ = 0) := HS0.out HA.out
        go_wp2_with fail
        go_ret
        exact ⟨by rw [HE.out]; rfl, hb0⟩






theorem nameE_two {s : ByteArray} (h : nameE s ≠ 0) : nameE s = 2 := by
  unfold nameE at h ⊢
  split
  · rfl
  · rename_i h1
    rw [if_neg h1] at h
    split
    · rfl
    · rename_i h2
      rw [if_neg h2] at h
      split
      · rfl
      · rename_i h3; rw [if_neg h3] at h; exact absurd rfl h

set_option maxHeartbeats 1000000 in
theorem rprop_any (p : Prp) (w : World) (hp : p.ok) :
    Calls Tryz.prog 144 #[.agg #[.string p.name, .int .i64 p.v.ty, .int .i64 p.v.n, .string p.v.s]] w fun e w' => e = .returned (.int .i64 (prpE p)) ∧ Below w.heap.size w w' := by
  obtain ⟨nm, v⟩ := p
  obtain ⟨hn, hv⟩ := hp
  have hn' : Sm nm := hn
  have hv' : Sm v.s := hv.2.2
  have hb0 : Below w.heap.size w (w.alloc (.cells #[.string nm, .int .i64 v.ty, .int .i64 v.n, .string v.s] 181)) := (Below.refl _ _).alloc (Nat.le_refl _) _
  by_cases h : nameE nm = 0
  · have HE : Hid (prpE ⟨nm, v⟩ = valE v) := by unfold Hid prpE; rw [if_pos h]
    have hr := rname_any nm (w.alloc (.cells #[.string nm, .int .i64 v.ty, .int .i64 v.n, .string v.s] 181)) hn'
    rw [h] at hr
    clear h
    go_enter Tryz.func144, Tryz.ntmps144
    go_wp2_with fail
    refine hr.mono ?_
    clear hr
    rintro e w1 ⟨rfl, rfl⟩
    go_wp2_with fail
    refine (rvalue_any v _ hv').mono ?_
    rintro e w2 ⟨rfl, hb2⟩
    have hb3 := hb0.trans (hb2.mono hb0.size)
    generalize valE v = z at *
    go_wp2_with fail
    go_ret
    exact ⟨by rw [HE.out]; rfl, hb3⟩
  · have HE : Hid (prpE ⟨nm, v⟩ = 2) := by unfold Hid prpE; rw [if_neg h]; exact nameE_two h
    have hr := rname_any nm (w.alloc (.cells #[.string nm, .int .i64 v.ty, .int .i64 v.n, .string v.s] 181)) hn'
    rw [nameE_two h] at hr
    clear h
    go_enter Tryz.func144, Tryz.ntmps144
    go_wp2_with fail
    refine hr.mono ?_
    clear hr
    rintro e w1 ⟨rfl, rfl⟩
    go_wp2_with fail
    go_ret
    exact ⟨by rw [HE.out]; rfl, hb0⟩
set_option maxRecDepth 100000 in
set_option maxHeartbeats 4000000 in
theorem rrecord_any (r : List Prp) (v : Value) (w : World) (hv : Sl prpL w v r) :
    Calls Tryz.prog 93 #[v] w fun e w' => e = .returned (.int .i64 (recE r)) ∧ Below w.heap.size w w' := by
  obtain ⟨A, c, rfl, hlc, hcm⟩ := hv.form
  unfold maxLen at hcm
  have HF : Hid (recE r = if 8 < r.length then 4 else if firstE prpE r = 0 then (if chain (fun a b => ltS a.name b.name) r then 0 else 7) else firstE prpE r) := rfl
  by_cases h8 : 8 < r.length
  · have HE : Hid (recE r = 4) := by unfold Hid; rw [HF.out, if_pos h8]
    have h8' : (8 : Int) < (r.length : Int) := by omega
    clear hv HF
    go_enter Tryz.func93, Tryz.ntmps93
    go_wp2_with fail
    go_ret
    exact ⟨by rw [HE.out]; rfl, Below.refl _ _⟩
  have h8' : (r.length : Int) ≤ 8 := by omega
  go_enter Tryz.func93, Tryz.ntmps93
  go_wp2_with fail
  go_loopw [3] (fun i wr => ∃ k : Nat, k ≤ r.length ∧ i = .int .i64 k ∧ Below w.heap.size w wr ∧ Hid (∀ j x, j < k → r[j]? = some x → prpE x = 0)) (fun i _ => r.length - (intOf i).toNat)
  case atStart => exact ⟨0, Nat.zero_le _, rfl, Below.refl _ _, fun j x hj => absurd hj (Nat.not_lt_zero _)⟩
  case round =>
    obtain ⟨k, hk, rfl, hb, HA⟩ := hrel
    by_cases hlt : k < r.length
    · obtain ⟨d, hd⟩ : ∃ d, r[k]? = some d := ⟨_, List.getElem?_eq_getElem hlt⟩
      obtain ⟨b, o, rfl, hok, x0, x1, x2, x3⟩ := prp_at (hv.below hb) hd
      have hlt' : (k : Int) < (r.length : Int) := by omega
      have HD := Lib.hid hd
      have hp := rprop_any d wr hok
      have HFE : Hid (prpE d ≠ 0 → recE r = prpE d) := fun hne => by
        have := firstE_hit HA.out hd hne
        rw [HF.out, if_neg h8, if_neg (by rw [this]; exact hne), this]
      have HZ : Hid (prpE d = 0 → ∀ j x, j < k + 1 → r[j]? = some x → prpE x = 0) := fun h => zero_step HA.out hd h
      clear hd hok HA hv HF
      generalize prpE d = z at *
      go_wp2_with fail
      refine hp.mono ?_
      clear hp
      rintro e w2 ⟨rfl, hb2⟩
      have hb3 := hb.trans (hb2.mono hb.size)
      by_cases hz : z = 0
      · have HN := Lib.hid (HZ.out hz)
        subst hz
        clear HFE HZ
        go_wp2_with fail
        go_roundw
        case rel => exact ⟨k + 1, by omega, by go_num, hb3, HN⟩
        case measure => simp [intOf]; omega
      · have HE : Hid (recE r = z) := HFE.out hz
        have hzb : (z != 0) = true := by simpa using hz
        clear HFE HZ hz
        go_wp2_with fail
        go_ret
        exact ⟨by rw [HE.out]; rfl, hb3⟩
    · obtain rfl : k = r.length := by omega
      have HG : Hid (recE r = if chain (fun a b => ltS a.name b.name) r then 0 else 7) := by unfold Hid; rw [HF.out, if_neg h8, if_pos (firstE_none HA.out)]
      clear HF HA hk hlt
      obtain ⟨wo, rfl⟩ : ∃ wo : World, wo = wr := ⟨_, rfl⟩
      go_wp2_with fail
      go_loopw [5] (fun i wr => ∃ k : Nat, (k = 0 ∨ k < r.length) ∧ i = .int .i64 ((k : Int) + 1) ∧ Below w.heap.size w wr ∧ Hid (∀ i a b, i < k → r[i]? = some a → r[i + 1]? = some b → ltS a.name b.name = true)) (fun i _ => r.length + 1 - (intOf i).toNat)
      case atStart => exact ⟨0, Or.inl rfl, rfl, hb, fun j _ _ hj => absurd hj (Nat.not_lt_zero _)⟩
      case round =>
        obtain ⟨k, hk, rfl, hb, HA⟩ := hrel
        by_cases hlt : k + 1 < r.length
        · obtain ⟨d, hd⟩ : ∃ d, r[k]? = some d := ⟨_, List.getElem?_eq_getElem (by omega)⟩
          obtain ⟨d', hd'⟩ : ∃ d, r[k + 1]? = some d := ⟨_, List.getElem?_eq_getElem hlt⟩
          obtain ⟨b, o, rfl, hall⟩ := prp_all (hv.below hb) (by omega)
          obtain ⟨_, x0, _⟩ := hall _ _ hd
          obtain ⟨_, y0, _⟩ := hall _ _ hd'
          have hlt' : (k : Int) + 1 < (r.length : Int) := by omega
          have hlt2 : (k : Int) < (r.length : Int) := by omega
          have hk0 : (0 : Int) ≤ (k : Int) := by omega
          have hw1 : IntKind.i64.wrap ((k : Int) + 1 - 1) = (k : Int) := by rw [IntWalk.i64_in _ (by omega)]; omega
          have HD : Hid (r[k]? = some d) := hd
          have HD' : Hid (r[k + 1]? = some d') := hd'
          have hltS : ltS d.name d'.name = decide (0 < cmpS d'.name d.name) := by
            rw [ltS_cmp, cmpS_anti d'.name d.name]; congr 1; apply propext; omega
          have hL : Op.bytesLess d'.name.toList d.name.toList = decide (cmpS d'.name d.name < 0) := ltS_cmp d'.name d.name
          have hE : (d'.name.toList == d.name.toList) = decide (d'.name = d.name) := bytes_beq d'.name d.name
          have HNO : Hid (ltS d.name d'.name = false → recE r = 7) := fun h => by rw [HG.out, chain_not HD.out HD'.out h]; rfl
          have HYES : Hid (ltS d.name d'.name = true → ∀ i a b, i < k + 1 → r[i]? = some a → r[i + 1]? = some b → ltS a.name b.name = true) := fun h => chain_step HA.out HD.out HD'.out h
          clear hall hd hd' hv HG HA HD HD'
          rcases Int.lt_trichotomy (cmpS d'.name d.name) 0 with hc | hc | hc
          · have hqf : ¬ d'.name = d.name := fun e => by rw [cmpS_zero.2 e] at hc; omega
            have HE : Hid (recE r = 7) := HNO.out (by rw [hltS, decide_eq_false (by omega)])
            rw [decide_eq_true hc] at hL
            rw [decide_eq_false hqf] at hE
            have hE2 : ¬ d'.name.toList = d.name.toList := by rw [bytes_eq]; exact hqf
            clear HNO HYES hltS hc hqf
            go_wp2_with fail
            go_quiet (fail)
            go_wp2_with fail
            go_ret
            exact ⟨by rw [HE.out]; rfl, below_drewN hb _⟩
          · have hqf : d'.name = d.name := cmpS_zero.1 hc
            have HE : Hid (recE r = 7) := HNO.out (by rw [hltS, decide_eq_false (by omega)])
            rw [decide_eq_false (show ¬ cmpS d'.name d.name < 0 by omega)] at hL
            rw [decide_eq_true hqf] at hE
            have hE2 : d'.name.toList = d.name.toList := by rw [bytes_eq]; exact hqf
            clear HNO HYES hltS hc hqf
            go_wp2_with fail
            go_quiet (fail)
            go_wp2_with fail
            go_ret
            exact ⟨by rw [HE.out]; rfl, below_drewN hb _⟩
          · have hqf : ¬ d'.name = d.name := fun e => by rw [cmpS_zero.2 e] at hc; omega
            have HN := Lib.hid (HYES.out (by rw [hltS, decide_eq_true hc]))
            rw [decide_eq_false (show ¬ cmpS d'.name d.name < 0 by omega)] at hL
            rw [decide_eq_false hqf] at hE
            have hE2 : ¬ d'.name.toList = d.name.toList := by rw [bytes_eq]; exact hqf
            clear HNO HYES hltS hc hqf
            go_wp2_with fail
            go_quiet (fail)
            go_wp2_with fail
            go_roundw
            case rel => exact ⟨k + 1, by omega, by go_num, below_drewN hb _, HN⟩
            case measure => simp [intOf]; omega
        · have hlt' : (r.length : Int) ≤ (k : Int) + 1 := by omega
          have HE : Hid (recE r = 0) := by unfold Hid; rw [HG.out, chain_all (by omega) HA.out]; rfl
          clear hv HG HA
          go_wp2_with fail
          go_ret
          exact ⟨by rw [HE.out]; rfl, hb⟩
end Go.Proofs.YtflidfmpmakggaaGreatDoor
