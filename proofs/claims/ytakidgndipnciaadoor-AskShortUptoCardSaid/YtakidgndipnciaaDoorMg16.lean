/- Parts: Numb, AwD. -/
import Derived.Test.YtakidgndipnciaaDoorMg01
import Derived.Test.YtakidgndipnciaaDoorRows
import Derived.Deep.RegionLaw
import Derived.Test.YtakidgndipnciaaDoorMg13
import Derived.Test.YtakidgndipnciaaDoorMg15
import Derived.Test.YtakidgndipnciaaDoorMg07
import Derived.Test.YtakidgndipnciaaDoorMg06
/- Plain: a step of a region that draws, by a contract; the contract of kinlaw4.number. -/
namespace Go.Proofs.YtakidgndipnciaaDoor
open Go Go.RowKit

/-- A step of a region that draws, as it stands. -/
theorem step_here {P : Program} {ops : Array Oper} {o : Oper} {a : Act} {w : World} {K : Act → World → Prop} {Q : Exit → Act → World → Prop} {E : Prop} (hg : o.guard = none) (h : Oper.wp P o a w K Q) :
    if Region.wanted o (yielded ops a.tmps) = true then Oper.wp P o a w K Q else E := by
  rw [if_pos (by simp [Region.wanted, hg])]; exact h



/-- The variable ask.signs is laid. -/
def SgnOk (w : World) : Prop := w.cell? ⟨0, 1, none⟩ = some (.string ⟨#[61]⟩) ∧ w.cell? ⟨0, 2, none⟩ = some (.string ⟨#[33]⟩) ∧ w.cell? ⟨0, 3, none⟩ = some (.string ⟨#[60]⟩) ∧ w.cell? ⟨0, 4, none⟩ = some (.string .empty)
theorem SgnOk.below {w w' : World} (h : SgnOk w) (hb : Below w.heap.size w w') : SgnOk w' := ⟨cell_below hb h.1, cell_below hb h.2.1, cell_below hb h.2.2.1, cell_below hb h.2.2.2⟩
theorem sgn_cell {w : World} (h : SgnOk w) {m : Nat} (h1 : 1 ≤ m) (h4 : m ≤ 4) : w.cell? ⟨0, m, none⟩ = some (.string (bs (signT (m : Int)))) := by
  obtain ⟨e1, e2, e3, e4⟩ := h
  rcases (by omega : m = 1 ∨ m = 2 ∨ m = 3 ∨ m = 4) with rfl | rfl | rfl | rfl
  · exact e1
  · exact e2
  · exact e3
  · exact e4
theorem sgn_len (h : Int) : (signT h).length ≤ 1 := by unfold signT; split <;> (try split) <;> (try split) <;> simp
theorem tst_text (nm : ByteArray) (hw : Int) (v : Val) : nm ++ bs (signT hw) ++ bs (if hw = 4 then [] else showL v) = bs (tstT ⟨nm, hw, v⟩) := by
  conv => lhs; rw [← bs_of nm]
  rw [bs_append, bs_append]
  unfold tstT
  rw [List.append_assoc]
theorem tst_len {t : Tst} (h : tstE t = 0) : (tstT t).length ≤ 51 := by
  obtain ⟨h1, _, _, h4⟩ := tst_parts h
  have hn := name_len h1
  have hs := sgn_len t.how
  unfold tstT
  rw [List.length_append, List.length_append]
  split
  · rw [List.length_nil]; omega
  · rename_i h; have := show_len (h4 h); omega
theorem tsts_len : ∀ {l : List Tst}, (∀ t ∈ l, tstE t = 0) → (Lib.join (l.map tstT) [44]).length ≤ 52 * l.length
  | [], _ => by simp [Lib.join]
  | [a], h => by have := tst_len (h a List.mem_cons_self); show (Lib.join [tstT a] [44]).length ≤ _; rw [join_one]; simp; omega
  | a :: b :: r, h => by
    have h1 := tst_len (h a List.mem_cons_self)
    have h2 := tsts_len (l := b :: r) (fun t ht => h t (List.mem_cons_of_mem _ ht))
    show (Lib.join (tstT a :: tstT b :: r.map tstT) [44]).length ≤ _
    rw [join_two, List.length_append, List.length_cons]
    have h3 : (Lib.join (tstT b :: r.map tstT) [44]).length ≤ 52 * (b :: r).length := h2
    simp only [List.length_cons] at h3 ⊢
    omega
set_option maxRecDepth 100000 in
set_option maxHeartbeats 8000000 in
theorem atests_any (ts : List Tst) (v : Value) (w : World) (hT : TxP w) (hS : SgnOk w) (h : Sl tstL w v ts) (h8 : ts.length ≤ 8) (hok : ∀ t ∈ ts, tstE t = 0) :
    Calls Tryd.prog 13 #[v] w fun e w' => e = .returned (.tuple #[.string (bs (tstsT ts)), .nilIface]) ∧ Below w.heap.size w w' := by
  obtain ⟨i0, ei, ez, ez1, ez2⟩ := info_parts str_info
  obtain ⟨A, c, rfl, _, _⟩ := h.form
  have HV := Lib.hid h
  have HT := Lib.hid hT
  have HS := Lib.hid hS
  have HOK := Lib.hid hok
  clear h hT hS hok
  go_enter Tryd.func13, Tryd.ntmps13
  go_wp2_with fail
  -- a loop: the mask [.k, .k, .y 2, .y 3, .a, .k, .y 6, .y 7, .y 8, .y 9, .k, .k, .b, .y 13, .y 14, .y 15, .y 16, .y 17, .y 18, .y 19, .y 20, .y 21, .y 22, .y 23, .y 24, .y 25, .y 26, .y 27, .y 28, .y 29, .y 30, .y 31, .y 32, .y 33, .y 34, .y 35, .y 36, .y 37, .y 38, .y 39, .y 40, .y 41, .k, .k, .k, .k, .k, .k, .k], the slots 4 12 0 0, the relation fun x4 i _ _ wr => ∃ k : Nat, k ≤ ts.length ∧ i = .int .i64 k ∧ Hid (Below w.heap.size w wr) ∧ Hid (Own wr w.heap.size 9 1 x4 k (wv ((ts.take k).map tstT))), the measure fun _ i _ _ _ => ts.length - (intOf i).toNat
  apply wp_loopm [.k, .k, .y 2, .y 3, .a, .k, .y 6, .y 7, .y 8, .y 9, .k, .k, .b, .y 13, .y 14, .y 15, .y 16, .y 17, .y 18, .y 19, .y 20, .y 21, .y 22, .y 23, .y 24, .y 25, .y 26, .y 27, .y 28, .y 29, .y 30, .y 31, .y 32, .y 33, .y 34, .y 35, .y 36, .y 37, .y 38, .y 39, .y 40, .y 41, .k, .k, .k, .k, .k, .k, .k] 4 12 0 0 (by decide +kernel) rfl (fun x4 i _ _ wr => ∃ k : Nat, k ≤ ts.length ∧ i = .int .i64 k ∧ Hid (Below w.heap.size w wr) ∧ Hid (Own wr w.heap.size 9 1 x4 k (wv ((ts.take k).map tstT)))) (fun _ i _ _ _ => ts.length - (intOf i).toNat) _ _ _ _ rfl rfl rfl rfl
  case start => exact ⟨0, Nat.zero_le _, rfl, Below.refl _ _, Own.nil _ _ _ _⟩
  case round =>
    -- a round: the names u4 u12 _ _ (four), the world's name
    intro ff u4 u12 _ _ wr hrel
    dsimp only [spread]
    obtain ⟨k, hk, rfl, HB, HO⟩ := hrel
    obtain ⟨wo, hwo⟩ : ∃ wo : World, wo = wr := ⟨_, rfl⟩
    subst hwo
    obtain ⟨A5, c5, rfl, hc5, _⟩ := HO.out.form
    by_cases hlt : k < ts.length
    · obtain ⟨d, hd⟩ : ∃ d, ts[k]? = some d := ⟨_, List.getElem?_eq_getElem hlt⟩
      have hlt' : (k : Int) < (ts.length : Int) := by omega
      obtain ⟨gb, o, rfl, hdok, q0, q1, q2, q3, q4⟩ := tst_at (HV.out.below HB.out) hd
      have hte := HOK.out d (List.mem_of_getElem? hd)
      have HTE := Lib.hid hte
      obtain ⟨hnm, hhw, _, hval⟩ := tst_parts hte
      have hn8 : d.name.size ≤ 8 := by have := name_len hnm; rw [Array.length_toList] at this; exact this
      have HSN : Hid (wv ((ts.take (k + 1)).map tstT) = wv ((ts.take k).map tstT) ++ [.string (bs (tstT d))]) := by
        unfold Hid wv
        rw [List.take_add_one, hd]; simp
      obtain ⟨nm, hw, ⟨dt, dn, ds⟩⟩ := d
      obtain ⟨m, rfl⟩ : ∃ m : Nat, hw = (m : Int) := ⟨hw.toNat, by have : 1 ≤ hw := hhw.1; omega⟩
      have hn8 : nm.size ≤ 8 := hn8
      have hm1 : 1 ≤ m := by have : (1 : Int) ≤ (m : Int) := hhw.1; omega
      have hm4 : m ≤ 4 := by have : (m : Int) ≤ 4 := hhw.2; omega
      have ha := (Below.refl wo.heap.size wo).alloc (Nat.le_refl _) (.cells #[.string nm, .int .i64 (m : Int), .int .i64 dt, .int .i64 dn, .string ds] 40)
      have hbk := heap_alloc_new wo (.cells #[.string nm, .int .i64 (m : Int), .int .i64 dt, .int .i64 dn, .string ds] 40)
      have HVP := Lib.hid (fun wx hTx => vprint_any ⟨dt, dn, ds⟩ hdok.2.2 wx hTx)
      have HVL : Hid ((m : Int) ≠ 4 → valE ⟨dt, dn, ds⟩ = 0) := hval
      have HSL : Hid (valE ⟨dt, dn, ds⟩ = 0 → (showL ⟨dt, dn, ds⟩).length ≤ 42) := show_len
      have HTX := Lib.hid (tst_text nm (m : Int) ⟨dt, dn, ds⟩)
      clear hd hte hnm hhw hval hdok hk
      go_upto_region 5 with fail
      generalize wo.alloc (.cells #[.string nm, .int .i64 (m : Int), .int .i64 dt, .int .i64 dn, .string ds] 40) = w3 at *
      clear q0 q1 q2 q3 q4
      generalize hq : wo.heap.size = q at *
      have HQ : Hid (w.heap.size ≤ q) := by have := HB.out.size; unfold Hid; omega
      have HQ3 : Hid (w3.heap.size = q + 1 ∨ q < w3.heap.size) := .inr (Array.getElem?_eq_some_iff.1 hbk).1
      have HBK := Lib.hid hbk
      have HA := Lib.hid ha
      clear hbk ha
      have y1 := block_cell HBK.out 1
      go_upto_if 18 with fail
      -- a cut: the mask [.k, .k, .y 2, .y 3, .k, .k, .k, .a, .y 8, .y 9, .k, .k, .k, .k, .k, .k, .k, .k, .y 18, .y 19, .y 20, .y 21, .y 22, .y 23, .y 24, .y 25, .y 26, .y 27, .y 28, .k, .k, .k, .k, .k, .k, .k, .k, .k, .k, .k, .k, .k, .k, .k, .k, .k, .k, .k, .k], the slots 7 0 0 0, the relation fun v _ _ _ wx => v = .string (bs (if (m : Int) = 4 then [] else showL ⟨dt, dn, ds⟩)) ∧ Hid (Below w3.heap.size w3 wx) ∧ (bs (if (m : Int) = 4 then [] else showL ⟨dt, dn, ds⟩)).size ≤ 42
      apply wp_cutm [.k, .k, .y 2, .y 3, .k, .k, .k, .a, .y 8, .y 9, .k, .k, .k, .k, .k, .k, .k, .k, .y 18, .y 19, .y 20, .y 21, .y 22, .y 23, .y 24, .y 25, .y 26, .y 27, .y 28, .k, .k, .k, .k, .k, .k, .k, .k, .k, .k, .k, .k, .k, .k, .k, .k, .k, .k, .k, .k] 7 0 0 0 (by decide +kernel) (fun v _ _ _ wx => v = .string (bs (if (m : Int) = 4 then [] else showL ⟨dt, dn, ds⟩)) ∧ Hid (Below w3.heap.size w3 wx) ∧ (bs (if (m : Int) = 4 then [] else showL ⟨dt, dn, ds⟩)).size ≤ 42)
      case first =>
        -- within a cut
        intro JJ KK hmeet hnext
        -- of what is to be done behind only the innermost is kept
        rename ∀ (a : Act) (w : World), Code.wp _ _ _ a w → _ => hkeep
        revert hkeep
        repeat (rename ∀ (a : Act) (w : World), Code.wp _ _ _ a w → _ => hz; clear hz)
        intro hkeep
        by_cases he : (m : Int) = 4
        · have hb1 : ((m : Int) == 4) = true := by rw [he]; rfl
          have hb2 : ((m : Int) != 4) = false := by rw [he]; rfl
          have hb3 : (!((m : Int) == 4)) = false := by rw [hb1]; rfl
          have HE : Hid ((if (m : Int) = 4 then [] else showL ⟨dt, dn, ds⟩) = []) := if_pos he
          clear he
          try rw [hb3]
          go_wp2_with fail
          -- a way's end
          refine Met.intro ?_
          go_step
          refine Forgot.at _ _ _ _ _ rfl rfl rfl rfl rfl rfl ?_
          exact ⟨by rw [HE.out]; rfl, Below.refl _ _, by rw [HE.out]; decide⟩
        · have hb1 : ((m : Int) == 4) = false := beq_eq_false_iff_ne.2 he
          have hb2 : ((m : Int) != 4) = true := bne_iff_ne.2 he
          have hb3 : (!((m : Int) == 4)) = true := by rw [hb1]; rfl
          have HE : Hid ((if (m : Int) = 4 then [] else showL ⟨dt, dn, ds⟩) = showL ⟨dt, dn, ds⟩) := if_neg he
          have hv0 := HVL.out he
          have hsl := HSL.out hv0
          have HLN : Hid ((bs (showL ⟨dt, dn, ds⟩)).size ≤ 42) := by unfold Hid; rw [bs_size]; exact hsl
          have hx := HVP.out w3 (HT.out.below (HB.out.trans (HA.out.mono HQ.out)))
          rw [hv0, if_pos rfl, errV_zero rfl] at hx
          have y2 := block_cell HBK.out 2
          have y3 := block_cell HBK.out 3
          have y4 := block_cell HBK.out 4
          clear he hv0 hsl
          try rw [hb3]
          go_wp2_with fail
          refine hx.mono ?_
          clear hx y1 y2 y3 y4
          rintro e w4 ⟨rfl, hb4⟩
          go_wp2_with fail
          -- a way's end
          refine Met.intro ?_
          go_step
          refine Forgot.at _ _ _ _ _ rfl rfl rfl rfl rfl rfl ?_
          exact ⟨by rw [HE.out], hb4, by rw [HE.out]; exact HLN.out⟩
      case rest =>
      -- behind a cut: the names of the slots' values u7 _ _ _ (four)
      intro ff u7 _ _ _ wc hcut
      dsimp only [spread]
      obtain ⟨w4, hw4⟩ : ∃ y : World, y = wc := ⟨_, rfl⟩
      subst hw4
      obtain ⟨rfl, HB4, hss⟩ := hcut
      generalize bs (if (m : Int) = 4 then [] else showL ⟨dt, dn, ds⟩) = sh at *
      have HB34 := Lib.hid (HA.out.trans (HB4.out.mono (by rw [← hq]; exact HA.out.size)))
      have HBK4 := Lib.hid ((HB4.out.block _ (Array.getElem?_eq_some_iff.1 HBK.out).1).trans HBK.out)
      have HBw := Lib.hid (HB.out.trans (HB34.out.mono HQ.out))
      have HO4 := Lib.hid (HO.out.below (by rw [hq]; exact HB34.out))
      have sg := sgn_cell (HS.out.below HBw.out) hm1 hm4
      have hsg : (bs (signT (m : Int))).size ≤ 1 := by rw [bs_size]; exact sgn_len _
      generalize bs (signT (m : Int)) = sgn at *
      have z0 := block_cell HBK4.out 0
      have z1 := block_cell HBK4.out 1
      have hc1 : ¬ 9223372036854775807 < nm.size + sgn.size := by omega
      have hc2 : ¬ 9223372036854775807 < nm.size + sgn.size + sh.size := by omega
      have hm5 : (m : Int) < 5 := by omega
      have hm0 : (0 : Int) ≤ (m : Int) := Int.natCast_nonneg m
      have HOD : Hid (Own (w4.alloc (.cells #[.string (nm ++ sgn ++ sh)] 9)).drew w.heap.size 9 1 (.slice A5 k c5) k (wv ((ts.take k).map tstT))) := (HO4.out.alloc _).below ((Below.refl _ _).drew)
      have HND : Hid (∀ j u, ([.string (nm ++ sgn ++ sh)] : List Value)[j]? = some u → (w4.alloc (.cells #[.string (nm ++ sgn ++ sh)] 9)).drew.cell? ⟨w4.heap.size, j, none⟩ = some u) := fun j u hj => by
        show (w4.alloc (.cells #[.string (nm ++ sgn ++ sh)] 9)).cell? ⟨w4.heap.size, j, none⟩ = some u
        rw [World.cell?_alloc_at _ _ _ _ rfl]; simpa using hj
      have hA4 := HBw.out.alloc HBw.out.size (.cells #[.string (nm ++ sgn ++ sh)] 9)
      have HA4 := Lib.hid hA4
      clear HO HO4 hA4 y1
      go_upto_region 11 with fail
      go_region_law
        (first
          | (refine step_here rfl ?_
             refine wp_append_q _ (.tmp 29) (.tmp 39) _ rfl w.heap.size 9 i0 (.string .empty) 1 16 Tryd.underlying22 ei ez ez1 ez2 rfl (by decide) (.slice A5 k c5) k (wv ((ts.take k).map tstT)) rfl HOD.out (some ⟨w4.heap.size, 0, none⟩) 1 1 [.string (nm ++ sgn ++ sh)] rfl rfl (fun _ => ⟨_, rfl, fun j u hj => by rw [addr_add, Nat.zero_add]; exact HND.out j u hj⟩) (fun u hu => by simp at hu; subst hu; rfl) (by unfold maxLen; omega) (by omega) (show w.heap.size ≤ (w4.alloc (.cells #[.string (nm ++ sgn ++ sh)] 9)).heap.size from HA4.out.size) ?_
             intro v9 w9 hown9 hg9 hat9))
      all_goals
        have hB9 : Below w.heap.size w w9 := HA4.out.drew.grown hg9 HA4.out.drew.size (fun kk e => (HOD.out.lt kk e).1)
        have HB9 := Lib.hid hB9
        have HO9 : Hid (Own w9 w.heap.size 9 1 v9 (k + 1) (wv ((ts.take (k + 1)).map tstT))) := by unfold Hid; rw [HSN.out, ← HTX.out]; exact hown9
        clear hg9 hat9 hown9 HOD HND hB9 sg z0 z1
        go_wp2_with fail
        -- a round's end: the relation, the measure
        apply Rounded.at _ _ _ _ _ rfl rfl rfl rfl rfl rfl
        case rel => exact ⟨k + 1, by omega, by go_num, HB9, by first | exact HO9 | (have h := HO9.out; rw [List.map_take] at h; exact h)⟩
        case measure => simp [intOf]; omega
    · obtain rfl : k = ts.length := by omega
      have HO2 : Hid (Own wo w.heap.size 9 1 (.slice A5 ts.length c5) (ts.map tstT).length (wv (ts.map tstT))) := by
        have := HO.out
        rw [List.take_length] at this
        unfold Hid; rw [List.length_map]; exact this
      by_cases h0 : ts.length = 0
      · have HE0 : Hid (tstsT ts = []) := by unfold Hid tstsT; rw [if_pos (List.length_eq_zero_iff.1 h0)]
        have h0b : ((ts.length : Int) == 0) = true := by rw [h0]; rfl
        clear h0 HO HO2 hlt hk
        go_wp2_with fail
        go_ret2
        exact ⟨by rw [HE0.out]; rfl, HB.out⟩
      · have HE0 : Hid (tstsT ts = 91 :: (Lib.join (ts.map tstT) [44] ++ [93])) := by unfold Hid tstsT; rw [if_neg (fun e => h0 (by rw [e]; rfl))]
        have h0b : ((ts.length : Int) == 0) = false := by rw [beq_eq_false_iff_ne]; omega
        have hlm : (ts.map tstT).length = ts.length := List.length_map _
        obtain ⟨g9, o9, c9, hv9, _, _⟩ := HO2.out.addr (by omega)
        injection hv9 with e1 e2 e3
        subst e1
        subst e3
        have hjl := tsts_len HOK.out
        have hx := join_own w.heap.size wo g9 o9 c5 (ts.map tstT) [44] (by have h9 := HO2.out; rw [hlm] at h9 ⊢; exact h9) (by omega) (by omega) (by omega)
        rw [hlm] at hx
        have hjs : (bs (Lib.join (ts.map tstT) [44])).size ≤ 416 := by rw [bs_size]; omega
        have HTX : Hid (⟨#[91]⟩ ++ bs (Lib.join (ts.map tstT) [44]) ++ ⟨#[93]⟩ = bs (tstsT ts)) := by
          unfold Hid
          show bs [91] ++ _ ++ bs [93] = _
          rw [HE0.out, bs_append, bs_append]; rfl
        generalize bs (Lib.join (ts.map tstT) [44]) = jn at *
        have hc1 : ¬ 9223372036854775807 < 1 + jn.size := by omega
        have hc2 : ¬ 9223372036854775807 < 1 + jn.size + 1 := by omega
        clear h0 HO HO2 hlt hk e2 hjl hlm
        go_wp2_with fail
        refine hx.mono ?_
        clear hx
        rintro e w8 ⟨rfl, hb8⟩
        go_wp2_with fail
        go_ret2
        exact ⟨by rw [← HTX.out]; rfl, HB.out.trans (hb8.mono HB.out.size)⟩
end Go.Proofs.YtakidgndipnciaaDoor
