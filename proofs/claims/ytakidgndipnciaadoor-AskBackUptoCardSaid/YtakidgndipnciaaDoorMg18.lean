/- Parts: RxF. -/
import Derived.Test.YtakidgndipnciaaDoorMg17
import Derived.Test.YtakidgndipnciaaDoorMg04
import Derived.Test.YtakidgndipnciaaDoorMg15
/- Contract of the reader of a path: step. Conditions: the text is not too long; the library's errors and the signs are laid. -/
namespace Go.Proofs.YtakidgndipnciaaDoor
open Go Go.RowKit




theorem tst_info : (Tryd.prog.info? 40).map (fun i => (i.zero, i.size, i.bytes)) = some (some (.agg #[.string .empty, .int .i64 0, .int .i64 0, .int .i64 0, .string .empty]), 5, 56) := by kernel_rfl
theorem RdK.grown {r : Nat} {w w1 w2 : World} {row : Option Nat} (h : RdK r w w1) (hg : w1.grownBy w2 row) (hr : r ≤ w.heap.size) (hlo : ∀ kk, row = some kk → w.heap.size ≤ kk) : RdK r w w2 :=
  ⟨h.bel.grown hg (Nat.le_trans hr h.size) (fun kk e => Nat.le_trans hr (hlo kk e)), fun k hk hkr => (hg.block k (Nat.lt_of_lt_of_le hk h.size) (fun e => absurd (hlo k e.symm) (Nat.not_le.2 hk))).trans (h.up k hk hkr)⟩
/-- A call at a step of a region that draws, which panics (the last premise is empty: the walk of a region wants one way on). -/
theorem step_callp {P : Program} {ops : Array Oper} {o : Oper} {a : Act} {w : World} {K : Act → World → Prop} {Q : Exit → Act → World → Prop} {E : Prop} (hg : o.guard = none) (g : Nat) (vs : Array Value)
    (hr : (execOp a.eval o).run P w = .ok (.enter g vs) w) {R : Ending → World → Prop}
    (h : Calls P g vs w R) (hk : ∀ e w', R e w' → ∃ c, e = .panicked c ∧ Q (.panic c) a w') (_dead : wpAny P .any #[] (fun _ _ _ => True) 0 #[] a w) :
    if Region.wanted o (yielded ops a.tmps) = true then Oper.wp P o a w K Q else E := by
  rw [if_pos (by simp [Region.wanted, hg])]
  unfold Oper.wp
  rw [hr, Oper.upon_enter]
  exact h.mono fun e w' hR => by
    obtain ⟨c, rfl, hK⟩ := hk e w' hR
    exact hK
theorem five_cells (w : World) (a b c d e : Value) (T : TypeId) : ∀ j u, ([a, b, c, d, e] : List Value)[j]? = some u → (w.alloc (.cells #[a, b, c, d, e] T)).cell? ⟨w.heap.size, j, none⟩ = some u := fun j u hj => by
  rw [World.cell?_alloc_at _ _ _ _ rfl]; simpa using hj
theorem Tst.enc_len (d : Tst) : d.enc.length = 5 := rfl
theorem one_in {x : UInt8} (h : x ∈ [91]) : x = 91 := by simpa using h
theorem RdAt.len {w : World} {r : Nat} {s : ByteArray} {l : List UInt8} (h : RdAt w r s l) : l.length ≤ s.size := by obtain ⟨p, h1, _, _⟩ := h; omega
/-- The box of a step that is being read. -/
def StB (w : World) (q : Nat) (b : ByteArray) (k : Bool) (n : ByteArray) (v : Value) : Prop := w.heap[q]? = some (.cells #[.string b, .bool k, .string n, v] 30 (0, 0))
set_option maxRecDepth 100000 in
set_option maxHeartbeats 16000000 in
theorem step_rd (fst : Bool) (s : ByteArray) (hs : Sm s) (r : Nat) (l : List UInt8) (w : World) (wB : World) (hT : TxOk wB) (hG : Sgn5 wB) (hBr : wB.heap.size ≤ r) (hBw : Below wB.heap.size wB w) (h : RdAt w r s l) :
    Calls Tryd.prog 16 #[.pointer (some ⟨r, 0, none⟩), .bool fst] w fun e w' => Rd r s w (pFst fst l) (fun x u w' => ∃ v3, u = .agg #[.string x.bond, .bool x.back, .string x.kind, v3] ∧ Sm x.bond ∧ Sm x.kind ∧ (∀ t ∈ x.tests, t.ok) ∧ Own w' wB.heap.size 40 5 v3 x.tests.length (x.tests.flatMap Tst.enc)) e w' := by
  have hrl := h.lt
  have HRL := Lib.hid hrl
  have HBW := Lib.hid hBw
  have HTS := Lib.hid hT
  have HGS := Lib.hid hG
  have ha := (Below.refl w.heap.size w).alloc (Nat.le_refl _) (.cells #[.string ⟨#[]⟩, .bool false, .string ⟨#[]⟩, .slice none 0 0] 30)
  have hz := heap_alloc_new w (.cells #[.string ⟨#[]⟩, .bool false, .string ⟨#[]⟩, .slice none 0 0] 30)
  have HK0 := Lib.hid (RdK.of (Nat.le_of_lt hrl) ha)
  have HNE : Hid (w.heap.size ≠ r) := by unfold Hid; omega
  have HA0 := Lib.hid (h.below ha)
  have HLS : Hid (l.length ≤ 1048576) := by obtain ⟨p, h1, _, _⟩ := h; unfold Sm at hs; unfold Hid; omega
  clear h ha hBw hT hG hrl
  obtain ⟨i0, ei, ez, ez1, ez2⟩ := info_parts tst_info
  go_enter Tryd.func16, Tryd.ntmps16
  go_upto_region 1 with fail
  generalize w.alloc (.cells #[.string ⟨#[]⟩, .bool false, .string ⟨#[]⟩, .slice none 0 0] 30) = W0 at *
  generalize hq : w.heap.size = q at *
  have HZ : Hid (StB W0 q ⟨#[]⟩ false ⟨#[]⟩ (.slice none 0 0)) := hz
  have HQ := Lib.hid hq
  have HQR : Hid (r ≤ q) := by have := HRL.out; unfold Hid; omega
  have HQW : Hid (w.heap.size ≤ q) := Nat.le_of_eq hq
  clear hz hq
  go_upto_if 6 with fail
  -- a cut: the mask [.k, .k, .k, .k, .k, .k, .y 6, .y 7, .y 8, .y 9, .y 10, .y 11, .y 12, .y 13, .y 14, .y 15, .y 16, .y 17, .y 18, .y 19, .y 20, .y 21, .y 22, .y 23, .y 24, .y 25, .y 26, .y 27, .y 28, .k, .k, .k, .k, .k, .k, .k, .k, .k, .k, .k, .k, .k, .k, .k, .k, .k, .k, .k, .k, .k], the slots 0 0 0 0, the relation fun _ _ _ _ wx => ∃ (b : ByteArray) (k : Bool) (l2 : List UInt8), Hid (pFst fst l = pKind b k l2) ∧ Hid (l2.length ≤ 1048576 ∧ Sm b) ∧ Hid (RdK r w wx) ∧ Hid (RdAt wx r s l2) ∧ Hid (StB wx q b k ⟨#[]⟩ (.slice none 0 0))
  apply wp_cutm [.k, .k, .k, .k, .k, .k, .y 6, .y 7, .y 8, .y 9, .y 10, .y 11, .y 12, .y 13, .y 14, .y 15, .y 16, .y 17, .y 18, .y 19, .y 20, .y 21, .y 22, .y 23, .y 24, .y 25, .y 26, .y 27, .y 28, .k, .k, .k, .k, .k, .k, .k, .k, .k, .k, .k, .k, .k, .k, .k, .k, .k, .k, .k, .k, .k] 0 0 0 0 (by decide +kernel) (fun _ _ _ _ wx => ∃ (b : ByteArray) (k : Bool) (l2 : List UInt8), Hid (pFst fst l = pKind b k l2) ∧ Hid (l2.length ≤ 1048576 ∧ Sm b) ∧ Hid (RdK r w wx) ∧ Hid (RdAt wx r s l2) ∧ Hid (StB wx q b k ⟨#[]⟩ (.slice none 0 0)))
  case first =>
    -- within a cut
    intro JJ KK hmeet hnext
    -- of what is to be done behind only the innermost is kept
    rename ∀ (a : Act) (w : World), Code.wp _ _ _ a w → _ => hkeep
    revert hkeep
    repeat (rename ∀ (a : Act) (w : World), Code.wp _ _ _ a w → _ => hz; clear hz)
    intro hkeep
    cases fst with
    | true =>
      go_wp2_with fail
      -- a way's end
      refine Met.intro ?_
      go_step
      refine Forgot.at _ _ _ _ _ rfl rfl rfl rfl rfl rfl ?_
      exact ⟨.empty, false, l, rfl, ⟨HLS.out, by unfold Sm; decide⟩, HK0, HA0, HZ⟩
    | false =>
      have hx := words_any 32 (by decide) s hs r l W0 HA0.out
      cases hp : pNeed 32 l with
      | error n =>
        rw [hp] at hx
        have HERR : Hid (pFst false l = .error n) := step_e1 hp
        clear hp
        -- a call stops the reading: HERR: the whole stops so; HK0: what stays till then
        go_wp2_with fail
        refine hx.mono ?_
        clear hx
        rintro e w9 ⟨hk9, hn, rfl⟩
        have HK9 := Lib.hid (((HK0).out).trans hk9)
        have HN := Lib.hid hn
        clear hk9 hn
        go_wp2_with fail
        rw [(HERR).out]
        exact ⟨rfl, HK9.out, HN.out, rfl⟩
      | ok l1 =>
        rw [hp] at hx
        have HP1 := Lib.hid hp
        clear hp
        go_wp2_with fail
        refine hx.mono ?_
        clear hx
        rintro e w1 ⟨hk1, v, rfl, _, ha1⟩
        have HK1 := Lib.hid (HK0.out.trans hk1)
        have HZ1 : Hid (StB w1 q ⟨#[]⟩ false ⟨#[]⟩ (.slice none 0 0)) := hk1.block HZ.out HNE.out
        have hx := need_any signs2 s hs (by decide +kernel) r l1 w1 ha1
        clear hk1 ha1
        cases hp : pAny signs2.data.toList l1 with
        | error n =>
          rw [hp] at hx
          have HERR : Hid (pFst false l = .error n) := step_e2 HP1.out hp
          clear hp
          -- a call stops the reading: HERR: the whole stops so; HK1: what stays till then
          go_wp2_with fail
          refine hx.mono ?_
          clear hx
          rintro e w9 ⟨hk9, hn, rfl⟩
          have HK9 := Lib.hid (((HK1).out).trans hk9)
          have HN := Lib.hid hn
          clear hk9 hn
          go_wp2_with fail
          rw [(HERR).out]
          exact ⟨rfl, HK9.out, HN.out, rfl⟩
        | ok cr =>
          obtain ⟨c, l2⟩ := cr
          rw [hp] at hx
          obtain ⟨hl1, hcm⟩ := any_hit hp
          subst hl1
          have HST := Lib.hid (step_ok HP1.out ((signs2_in c).1 hcm))
          have e60 : ((c.toNat : Int) == 60) = decide (c = 60) := u8_eq c 60 (by decide)
          generalize decide (c = 60) = k at *
          clear hp hcm
          go_wp2_with fail
          refine hx.mono ?_
          clear hx
          rintro e w2 ⟨hk2, v, rfl, rfl, ha2⟩
          have HK2 := Lib.hid (HK1.out.trans hk2)
          have hz2 := hk2.block HZ1.out HNE.out
          have x1 := block_cell hz2 1
          have f1 := block_free hz2 1
          have HZ2 : Hid (StB (w2.setCell ⟨q, 1, none⟩ (.bool k)) q ⟨#[]⟩ k ⟨#[]⟩ (.slice none 0 0)) := setCell_block hz2 1 (.bool k)
          have HK2' := Lib.hid (HK2.out.setNew HQW.out HQR.out (i := 1) (.bool k))
          have HA2 : Hid (RdAt (w2.setCell ⟨q, 1, none⟩ (.bool k)) r s l2) := by
            obtain ⟨p', g1, g2, g3⟩ := ha2
            exact ⟨p', g1, g2, setCell_oth g3 HNE.out.symm 1 _⟩
          clear hk2 ha2 hz2
          go_upto_region 4 with fail
          clear x1 f1
          generalize w2.setCell ⟨q, 1, none⟩ (.bool k) = w3 at *
          have x1 := block_cell HZ2.out 1
          go_upto_if 14 with fail
          -- a cut: the mask [.k, .k, .k, .k, .k, .k, .k, .k, .k, .k, .k, .k, .k, .k, .y 14, .y 15, .y 16, .k, .k, .k, .k, .k, .k, .k, .k, .k, .k, .k, .k, .k, .k, .k, .k, .k, .k, .k, .k, .k, .k, .k, .k, .k, .k, .k, .k, .k, .k, .k, .k, .k], the slots 0 0 0 0, the relation fun _ _ _ _ wx => ∃ l3, Hid (pStep l = pBond k l3) ∧ Hid (RdK r w wx) ∧ Hid (RdAt wx r s l3) ∧ Hid (StB wx q ⟨#[]⟩ k ⟨#[]⟩ (.slice none 0 0))
          apply wp_cutm [.k, .k, .k, .k, .k, .k, .k, .k, .k, .k, .k, .k, .k, .k, .y 14, .y 15, .y 16, .k, .k, .k, .k, .k, .k, .k, .k, .k, .k, .k, .k, .k, .k, .k, .k, .k, .k, .k, .k, .k, .k, .k, .k, .k, .k, .k, .k, .k, .k, .k, .k, .k] 0 0 0 0 (by decide +kernel) (fun _ _ _ _ wx => ∃ l3, Hid (pStep l = pBond k l3) ∧ Hid (RdK r w wx) ∧ Hid (RdAt wx r s l3) ∧ Hid (StB wx q ⟨#[]⟩ k ⟨#[]⟩ (.slice none 0 0)))
          case first =>
            -- within a cut
            intro JJ KK hmeet hnext
            -- of what is to be done behind only the innermost is kept
            rename ∀ (a : Act) (w : World), Code.wp _ _ _ a w → _ => hkeep
            revert hkeep
            repeat (rename ∀ (a : Act) (w : World), Code.wp _ _ _ a w → _ => hz; clear hz)
            intro hkeep
            cases k with
            | false =>
              have HS0 : Hid (pStep l = pBond false l2) := by unfold Hid; rw [HST.out, if_neg (by decide)]
              go_wp2_with fail
              -- a way's end
              refine Met.intro ?_
              go_step
              refine Forgot.at _ _ _ _ _ rfl rfl rfl rfl rfl rfl ?_
              exact ⟨l2, HS0, HK2', HA2, HZ2⟩
            | true =>
              have HS0 : Hid (pStep l = pDash l2) := by unfold Hid; rw [HST.out, if_pos rfl]
              have hx := words_any 45 (by decide) s hs r l2 w3 HA2.out
              cases hp : pNeed 45 l2 with
              | error n =>
                rw [hp] at hx
                have HERR : Hid (pFst false l = .error n) := by unfold Hid; show pStep l = _; rw [HS0.out, dash_e hp]
                clear hp x1
                -- a call stops the reading: HERR: the whole stops so; HK2': what stays till then
                go_wp2_with fail
                refine hx.mono ?_
                clear hx
                rintro e w9 ⟨hk9, hn, rfl⟩
                have HK9 := Lib.hid (((HK2').out).trans hk9)
                have HN := Lib.hid hn
                clear hk9 hn
                go_wp2_with fail
                rw [(HERR).out]
                exact ⟨rfl, HK9.out, HN.out, rfl⟩
              | ok l3 =>
                rw [hp] at hx
                have HS1 : Hid (pStep l = pBond true l3) := by unfold Hid; rw [HS0.out, dash_ok hp]
                clear hp x1
                go_wp2_with fail
                refine hx.mono ?_
                clear hx
                rintro e w4 ⟨hk4, v, rfl, _, ha4⟩
                have HK4 := Lib.hid (HK2'.out.trans hk4)
                have HA4 := Lib.hid ha4
                have HZ4 : Hid (StB w4 q ⟨#[]⟩ true ⟨#[]⟩ (.slice none 0 0)) := hk4.block HZ2.out HNE.out
                clear hk4 ha4
                go_wp2_with fail
                -- a way's end
                refine Met.intro ?_
                go_step
                refine Forgot.at _ _ _ _ _ rfl rfl rfl rfl rfl rfl ?_
                exact ⟨l3, HS1, HK4, HA4, HZ4⟩
          case rest =>
          -- behind a cut: the names of the slots' values _ _ _ _ (four)
          intro ff _ _ _ _ wc hcut
          dsimp only [spread]
          clear HK2 HK2' HA2 HZ2 x1 HK1 HZ1 HK0 HA0 HZ HP1
          obtain ⟨w4, hw4⟩ : ∃ y : World, y = wc := ⟨_, rfl⟩
          subst hw4
          obtain ⟨l3, HS3, HK4, HA4, HZ4⟩ := hcut
          have hx := name_rd s hs r l3 w4 HA4.out
          cases hp : pName l3 with
          | error n =>
            rw [hp] at hx
            have HERR : Hid (pFst false l = .error n) := by unfold Hid; show pStep l = _; rw [HS3.out]; exact bond_e1 hp
            clear hp
            -- a call stops the reading: HERR: the whole stops so; HK4: what stays till then
            go_wp2_with fail
            refine hx.mono ?_
            clear hx
            rintro e w9 ⟨hk9, hn, rfl⟩
            have HK9 := Lib.hid (((HK4).out).trans hk9)
            have HN := Lib.hid hn
            clear hk9 hn
            go_wp2_with fail
            rw [(HERR).out]
            exact ⟨rfl, HK9.out, HN.out, rfl⟩
          | ok nr =>
            obtain ⟨bn, l4⟩ := nr
            rw [hp] at hx
            have HP4 := Lib.hid hp
            clear hp
            go_wp2_with fail
            refine hx.mono ?_
            clear hx
            rintro e w5 ⟨hk5, v, rfl, rfl, ha5⟩
            have HK5 := Lib.hid (HK4.out.trans hk5)
            have hz5 := hk5.block HZ4.out HNE.out
            have x0 := block_cell hz5 0
            have f0 := block_free hz5 0
            have HZ5 : Hid (StB (w5.setCell ⟨q, 0, none⟩ (.string bn)) q bn k ⟨#[]⟩ (.slice none 0 0)) := setCell_block hz5 0 (.string bn)
            have HK5' := Lib.hid (HK5.out.setNew HQW.out HQR.out (i := 0) (.string bn))
            have HA5 : Hid (RdAt (w5.setCell ⟨q, 0, none⟩ (.string bn)) r s l4) := by
              obtain ⟨p', g1, g2, g3⟩ := ha5
              exact ⟨p', g1, g2, setCell_oth g3 HNE.out.symm 0 _⟩
            clear hk5 ha5 hz5 HK5
            go_upto_region 7 with fail
            clear x0 f0
            generalize w5.setCell ⟨q, 0, none⟩ (.string bn) = w6 at *
            have hx := words_any 45 (by decide) s hs r l4 w6 HA5.out
            cases hp : pNeed 45 l4 with
            | error n =>
              rw [hp] at hx
              have HERR : Hid (pFst false l = .error n) := by unfold Hid; show pStep l = _; rw [HS3.out]; exact bond_e2 HP4.out hp
              clear hp
              -- a call stops the reading: HERR: the whole stops so; HK5': what stays till then
              go_wp2_with fail
              refine hx.mono ?_
              clear hx
              rintro e w9 ⟨hk9, hn, rfl⟩
              have HK9 := Lib.hid (((HK5').out).trans hk9)
              have HN := Lib.hid hn
              clear hk9 hn
              go_wp2_with fail
              rw [(HERR).out]
              exact ⟨rfl, HK9.out, HN.out, rfl⟩
            | ok l5 =>
              rw [hp] at hx
              have HS5 : Hid (pStep l = pTail k bn l5) := by unfold Hid; rw [HS3.out]; exact bond_ok HP4.out hp
              clear hp
              go_wp2_with fail
              refine hx.mono ?_
              clear hx
              rintro e w7 ⟨hk7, v, rfl, _, ha7⟩
              have HK7 := Lib.hid (HK5'.out.trans hk7)
              have HA7 := Lib.hid ha7
              have HZ7 : Hid (StB w7 q bn k ⟨#[]⟩ (.slice none 0 0)) := hk7.block HZ5.out HNE.out
              clear hk7 ha7 HK5' HA5 HZ5
              have x1 := block_cell HZ7.out 1
              go_upto_if 24 with fail
              -- a cut: the mask [.k, .k, .k, .k, .k, .k, .k, .k, .k, .k, .k, .k, .k, .k, .k, .k, .k, .k, .k, .k, .k, .k, .k, .k, .y 24, .y 25, .y 26, .k, .k, .k, .k, .k, .k, .k, .k, .k, .k, .k, .k, .k, .k, .k, .k, .k, .k, .k, .k, .k, .k, .k], the slots 0 0 0 0, the relation fun _ _ _ _ wx => ∃ l6, Hid (pStep l = pLast k bn l6) ∧ Hid (RdK r w wx) ∧ Hid (RdAt wx r s l6) ∧ Hid (StB wx q bn k ⟨#[]⟩ (.slice none 0 0))
              apply wp_cutm [.k, .k, .k, .k, .k, .k, .k, .k, .k, .k, .k, .k, .k, .k, .k, .k, .k, .k, .k, .k, .k, .k, .k, .k, .y 24, .y 25, .y 26, .k, .k, .k, .k, .k, .k, .k, .k, .k, .k, .k, .k, .k, .k, .k, .k, .k, .k, .k, .k, .k, .k, .k] 0 0 0 0 (by decide +kernel) (fun _ _ _ _ wx => ∃ l6, Hid (pStep l = pLast k bn l6) ∧ Hid (RdK r w wx) ∧ Hid (RdAt wx r s l6) ∧ Hid (StB wx q bn k ⟨#[]⟩ (.slice none 0 0)))
              case first =>
                -- within a cut
                intro JJ KK hmeet hnext
                -- of what is to be done behind only the innermost is kept
                rename ∀ (a : Act) (w : World), Code.wp _ _ _ a w → _ => hkeep
                revert hkeep
                repeat (rename ∀ (a : Act) (w : World), Code.wp _ _ _ a w → _ => hz; clear hz)
                intro hkeep
                cases k with
                | true =>
                  have HS6 : Hid (pStep l = pLast true bn l5) := by unfold Hid; rw [HS5.out, tail_back]
                  go_wp2_with fail
                  -- a way's end
                  refine Met.intro ?_
                  go_step
                  refine Forgot.at _ _ _ _ _ rfl rfl rfl rfl rfl rfl ?_
                  exact ⟨l5, HS6, HK7, HA7, HZ7⟩
                | false =>
                  have hx := words_any 62 (by decide) s hs r l5 w7 HA7.out
                  cases hp : pNeed 62 l5 with
                  | error n =>
                    rw [hp] at hx
                    have HERR : Hid (pFst false l = .error n) := by unfold Hid; show pStep l = _; rw [HS5.out]; exact tail_e1 hp
                    clear hp x1
                    -- a call stops the reading: HERR: the whole stops so; HK7: what stays till then
                    go_wp2_with fail
                    refine hx.mono ?_
                    clear hx
                    rintro e w9 ⟨hk9, hn, rfl⟩
                    have HK9 := Lib.hid (((HK7).out).trans hk9)
                    have HN := Lib.hid hn
                    clear hk9 hn
                    go_wp2_with fail
                    rw [(HERR).out]
                    exact ⟨rfl, HK9.out, HN.out, rfl⟩
                  | ok l6 =>
                    rw [hp] at hx
                    have HS6 : Hid (pStep l = pLast false bn l6) := by unfold Hid; rw [HS5.out]; exact tail_ok hp
                    clear hp x1
                    go_wp2_with fail
                    refine hx.mono ?_
                    clear hx
                    rintro e w8 ⟨hk8, v, rfl, _, ha8⟩
                    have HK8 := Lib.hid (HK7.out.trans hk8)
                    have HA8 := Lib.hid ha8
                    have HZ8 : Hid (StB w8 q bn false ⟨#[]⟩ (.slice none 0 0)) := hk8.block HZ7.out HNE.out
                    clear hk8 ha8
                    go_wp2_with fail
                    -- a way's end
                    refine Met.intro ?_
                    go_step
                    refine Forgot.at _ _ _ _ _ rfl rfl rfl rfl rfl rfl ?_
                    exact ⟨l6, HS6, HK8, HA8, HZ8⟩
              case rest =>
              -- behind a cut: the names of the slots' values _ _ _ _ (four)
              intro ff _ _ _ _ wc hcut
              dsimp only [spread]
              clear HK7 HA7 HZ7 x1
              obtain ⟨w8, hw8⟩ : ∃ y : World, y = wc := ⟨_, rfl⟩
              subst hw8
              obtain ⟨l6, HS6, HK8, HA8, HZ8⟩ := hcut
              have hx := words_any 32 (by decide) s hs r l6 w8 HA8.out
              cases hp : pNeed 32 l6 with
              | error n =>
                rw [hp] at hx
                have HERR : Hid (pFst false l = .error n) := by unfold Hid; show pStep l = _; rw [HS6.out]; exact last_e hp
                clear hp
                -- a call stops the reading: HERR: the whole stops so; HK8: what stays till then
                go_wp2_with fail
                refine hx.mono ?_
                clear hx
                rintro e w9 ⟨hk9, hn, rfl⟩
                have HK9 := Lib.hid (((HK8).out).trans hk9)
                have HN := Lib.hid hn
                clear hk9 hn
                go_wp2_with fail
                rw [(HERR).out]
                exact ⟨rfl, HK9.out, HN.out, rfl⟩
              | ok l7 =>
                rw [hp] at hx
                have HS7 : Hid (pFst false l = pKind bn k l7) := by unfold Hid; show pStep l = _; rw [HS6.out]; exact last_ok hp
                clear hp
                go_wp2_with fail
                refine hx.mono ?_
                clear hx
                rintro e w9 ⟨hk9, v, rfl, _, ha9⟩
                have HK9 := Lib.hid (HK8.out.trans hk9)
                have HA9 := Lib.hid ha9
                have HZ9 : Hid (StB w9 q bn k ⟨#[]⟩ (.slice none 0 0)) := hk9.block HZ8.out HNE.out
                have HL7 : Hid (l7.length ≤ 1048576 ∧ Sm bn) := by
                  have g1 := HA9.out.len
                  have g2 := HA4.out.len
                  have g3 := name_sm HP4.out
                  unfold Sm at hs
                  exact ⟨by omega, by unfold Sm; omega⟩
                clear hk9 ha9
                go_wp2_with fail
                -- a way's end
                refine Met.intro ?_
                go_step
                refine Forgot.at _ _ _ _ _ rfl rfl rfl rfl rfl rfl ?_
                exact ⟨bn, k, l7, HS7, HL7, HK9, HA9, HZ9⟩
  case rest =>
  -- behind a cut: the names of the slots' values _ _ _ _ (four)
  intro ff _ _ _ _ wc hcut
  dsimp only [spread]
  clear HZ HK0 HA0 HLS
  obtain ⟨w1, hw1⟩ : ∃ y : World, y = wc := ⟨_, rfl⟩
  subst hw1
  obtain ⟨b, k, l2, HPF, HLB, HK1, HA1, HZ1⟩ := hcut
  have hx := name_rd s hs r l2 w1 HA1.out
  cases hp : pName l2 with
  | error n =>
    rw [hp] at hx
    have HERR : Hid (pFst fst l = .error n) := by unfold Hid; rw [HPF.out]; exact kind_e hp
    clear hp
    -- a call stops the reading: HERR: the whole stops so; HK1: what stays till then
    go_wp2_with fail
    refine hx.mono ?_
    clear hx
    rintro e w9 ⟨hk9, hn, rfl⟩
    have HK9 := Lib.hid (((HK1).out).trans hk9)
    have HN := Lib.hid hn
    clear hk9 hn
    go_wp2_with fail
    rw [(HERR).out]
    exact ⟨rfl, HK9.out, HN.out, rfl⟩
  | ok nr =>
    obtain ⟨kn, l3⟩ := nr
    rw [hp] at hx
    have HP3 := Lib.hid hp
    have HKN : Hid (Sm kn) := by have g1 := name_sm hp; have g2 := HLB.out.1; unfold Hid Sm; omega
    clear hp
    go_wp2_with fail
    refine hx.mono ?_
    clear hx
    rintro e w2 ⟨hk2, v, rfl, rfl, ha2⟩
    have HK2 := Lib.hid (HK1.out.trans hk2)
    have hz2 := hk2.block HZ1.out HNE.out
    have x2 := block_cell hz2 2
    have f2 := block_free hz2 2
    have HZ2 : Hid (StB (w2.setCell ⟨q, 2, none⟩ (.string kn)) q b k kn (.slice none 0 0)) := setCell_block hz2 2 (.string kn)
    have HK2' := Lib.hid (HK2.out.setNew HQW.out HQR.out (i := 2) (.string kn))
    have HA2 : Hid (RdAt (w2.setCell ⟨q, 2, none⟩ (.string kn)) r s l3) := by
      obtain ⟨p', g1, g2, g3⟩ := ha2
      exact ⟨p', g1, g2, setCell_oth g3 HNE.out.symm 2 _⟩
    clear hk2 ha2 hz2 HK2 HK1 HA1 HZ1
    go_upto_region 12 with fail
    clear x2 f2
    generalize w2.setCell ⟨q, 2, none⟩ (.string kn) = w3 at *
    have hx := next_any ⟨#[91]⟩ s hs r l3 w3 HA2.out
    by_cases hop : ∃ r', l3 = 91 :: r'
    case neg =>
      have hmiss : pNext [91] l3 = (0, l3) := by
        cases l3 with
        | nil => rfl
        | cons x r' => exact pNext_miss (fun h => hop ⟨r', by rw [one_in h]⟩)
      have hx : Calls Tryd.prog 25 #[.pointer (some ⟨r, 0, none⟩), .string ⟨#[91]⟩] w3 fun e w' => e = .returned (.int .u8 ((pNext [91] l3).1.toNat : Int)) ∧ RdK r w3 w' ∧ RdAt w' r s (pNext [91] l3).2 := hx
      rw [hmiss] at hx
      have HRES : Hid (pFst fst l = .ok (⟨b, k, kn, []⟩, l3)) := by unfold Hid; rw [HPF.out]; exact kind_plain HP3.out (fun r' e => hop ⟨r', e⟩)
      clear hmiss hop
      go_wp2_with fail
      refine hx.mono ?_
      clear hx
      rintro e w4 ⟨rfl, hk4, ha4⟩
      have HKe := Lib.hid (HK2'.out.trans hk4)
      have HAe := Lib.hid ha4
      have HZe : Hid (w4.heap[q]? = some (.cells #[.string b, .bool k, .string kn, .slice none 0 0] 30 (0, 0))) := hk4.block HZ2.out HNE.out
      have HOWN : Hid (Own w4 wB.heap.size 40 5 (.slice none 0 0) ([] : List Tst).length (([] : List Tst).flatMap Tst.enc)) := Own.nil _ _ _ _
      have HTOK : Hid (∀ t ∈ ([] : List Tst), t.ok) := fun t h => by simp at h
      clear hk4 ha4 HK2' HA2 HZ2
      -- the step is whole: w4: the world; .slice none 0 0: the tests' slice; ([] : List Tst): the tests; l3: what is left; facts HZe (StB), HKe, HAe, HRES, HOWN, HTOK
      have g0 := block_cell HZe.out 0
      have g1 := block_cell HZe.out 1
      have g2 := block_cell HZe.out 2
      have g3 := block_cell HZe.out 3
      have f0 := block_free HZe.out 0
      have f1 := block_free HZe.out 1
      have f2 := block_free HZe.out 2
      have f3 := block_free HZe.out 3
      have HZx : Hid ((((((w4).setCell ⟨q, 0, none⟩ (.string b)).setCell ⟨q, 1, none⟩ (.bool k)).setCell ⟨q, 2, none⟩ (.string kn)).setCell ⟨q, 3, none⟩ (.slice none 0 0)).heap[q]? = some (.cells #[.string b, .bool k, .string kn, .slice none 0 0] 30 (0, 0))) := setCell_block (setCell_block (setCell_block (setCell_block HZe.out 0 (.string b)) 1 (.bool k)) 2 (.string kn)) 3 (.slice none 0 0)
      have HKx := Lib.hid ((((HKe.out.setNew HQW.out HQR.out (i := 0) (.string b)).setNew HQW.out HQR.out (i := 1) (.bool k)).setNew HQW.out HQR.out (i := 2) (.string kn)).setNew HQW.out HQR.out (i := 3) (.slice none 0 0))
      have HAx : Hid (RdAt (((((w4).setCell ⟨q, 0, none⟩ (.string b)).setCell ⟨q, 1, none⟩ (.bool k)).setCell ⟨q, 2, none⟩ (.string kn)).setCell ⟨q, 3, none⟩ (.slice none 0 0)) r s l3) := by
        obtain ⟨p', g1, g2, g3⟩ := HAe.out
        exact ⟨p', g1, g2, setCell_oth (setCell_oth (setCell_oth (setCell_oth g3 HNE.out.symm 0 _) HNE.out.symm 1 _) HNE.out.symm 2 _) HNE.out.symm 3 _⟩
      have HOx : Hid (Own (((((w4).setCell ⟨q, 0, none⟩ (.string b)).setCell ⟨q, 1, none⟩ (.bool k)).setCell ⟨q, 2, none⟩ (.string kn)).setCell ⟨q, 3, none⟩ (.slice none 0 0)) wB.heap.size 40 5 (.slice none 0 0) (([] : List Tst)).length ((([] : List Tst)).flatMap Tst.enc)) := by
        have hq0 : (w4).heap[q]? = some (.cells #[.string b, .bool k, .string kn, .slice none 0 0] 30 (0, 0)) := HZe.out
        exact HOWN.out.same (((Same.setCell (p := ⟨q, 0, none⟩) hq0 (by decide) _).trans (Same.setCell (p := ⟨q, 1, none⟩) (setCell_block hq0 0 _) (by decide) _)).trans ((Same.setCell (p := ⟨q, 2, none⟩) (setCell_block (setCell_block hq0 0 _) 1 _) (by decide) _).trans (Same.setCell (p := ⟨q, 3, none⟩) (setCell_block (setCell_block (setCell_block hq0 0 _) 1 _) 2 _) (by decide) _)))
      go_wp2_with fail
      have p0 := block_cell HZx.out 0
      have p1 := block_cell HZx.out 1
      have p2 := block_cell HZx.out 2
      have p3 := block_cell HZx.out 3
      rw [HRES.out]
      exact bodyPost_ret (v := .agg #[.string b, .bool k, .string kn, .slice none 0 0]) (by simp [results, Tryd.results16, go_sem, p0, p1, p2, p3]) rfl ⟨HKx.out, _, rfl, ⟨_, rfl, HLB.out.2, HKN.out, HTOK.out, HOx.out⟩, HAx.out⟩
    case pos =>
      obtain ⟨r', rfl⟩ := hop
      have hx : Calls Tryd.prog 25 #[.pointer (some ⟨r, 0, none⟩), .string ⟨#[91]⟩] w3 fun e w' => e = .returned (.int .u8 ((pNext [91] (91 :: r')).1.toNat : Int)) ∧ RdK r w3 w' ∧ RdAt w' r s (pNext [91] (91 :: r')).2 := hx
      rw [pNext_hit (by simp)] at hx
      have HKT : Hid (pFst fst l = withTs b k kn (pTs [] (r'.length + 1) r')) := by unfold Hid; rw [HPF.out]; exact kind_ts HP3.out
      go_wp2_with fail
      refine hx.mono ?_
      clear hx
      rintro e w4 ⟨rfl, hk4, ha4⟩
      have HK4 := Lib.hid (HK2'.out.trans hk4)
      have HA4 := Lib.hid ha4
      have HZ4 : Hid (StB w4 q b k kn (.slice none 0 0)) := hk4.block HZ2.out HNE.out
      clear hk4 ha4 HK2' HA2 HZ2
      have hx := test_rd s hs r r' w4 wB HTS.out HGS.out hBr (HBW.out.trans (HK4.out.bel.mono hBr)) HA4.out
      cases hp : pTest r' with
      | error n =>
        rw [hp] at hx
        have HERR : Hid (pFst fst l = .error n) := by unfold Hid; rw [HKT.out, ts_e hp]; rfl
        clear hp
        -- a call stops the reading: HERR: the whole stops so; HK4: what stays till then
        go_wp2_with fail
        refine hx.mono ?_
        clear hx
        rintro e w9 ⟨hk9, hn, rfl⟩
        have HK9 := Lib.hid (((HK4).out).trans hk9)
        have HN := Lib.hid hn
        clear hk9 hn
        go_wp2_with fail
        rw [(HERR).out]
        exact ⟨rfl, HK9.out, HN.out, rfl⟩
      | ok tr =>
        obtain ⟨t, l5⟩ := tr
        rw [hp] at hx
        have HTS5 : Hid (pFst fst l = withTs b k kn (pTsR [t] r'.length l5)) := by unfold Hid; rw [HKT.out, ts_ok hp]; rfl
        have HTO : Hid (t.ok) := tst_okx hp (by have := HA4.out.len; unfold Sm at hs; omega)
        have HL5 : Hid (l5.length ≤ r'.length) := test_len hp
        clear hp
        go_wp2_with fail
        refine hx.mono ?_
        clear hx
        rintro e w5 ⟨hk5, v, rfl, hv, ha5⟩
        replace hv : v = .agg #[.string t.name, .int .i64 t.how, .int .i64 t.v.ty, .int .i64 t.v.n, .string t.v.s] := hv
        subst hv
        have HK5 := Lib.hid (HK4.out.trans hk5)
        have hr5 := ha5.lt
        have hba := (Below.refl w5.heap.size w5).alloc (Nat.le_refl _) (.cells #[.string t.name, .int .i64 t.how, .int .i64 t.v.ty, .int .i64 t.v.n, .string t.v.s] 40)
        have hz5 : (w5.alloc (.cells #[.string t.name, .int .i64 t.how, .int .i64 t.v.ty, .int .i64 t.v.n, .string t.v.s] 40)).heap[q]? = some (.cells #[.string b, .bool k, .string kn, .slice none 0 0] 30 (0, 0)) := (hba.block _ (Array.getElem?_eq_some_iff.1 (hk5.block HZ4.out HNE.out)).1).trans (hk5.block HZ4.out HNE.out)
        have hn5 := heap_alloc_new w5 (.cells #[.string t.name, .int .i64 t.how, .int .i64 t.v.ty, .int .i64 t.v.n, .string t.v.s] 40)
        have x3 := block_cell hz5 3
        have f3 := block_free hz5 3
        have HZ5 : Hid (StB ((w5.alloc (.cells #[.string t.name, .int .i64 t.how, .int .i64 t.v.ty, .int .i64 t.v.n, .string t.v.s] 40)).setCell ⟨q, 3, none⟩ (.slice (some ⟨w5.heap.size, 0, none⟩) 1 1)) q b k kn (.slice (some ⟨w5.heap.size, 0, none⟩) 1 1)) := setCell_block hz5 3 _
        have HK5' := Lib.hid ((HK5.out.trans (RdK.of (Nat.le_of_lt hr5) hba)).setNew HQW.out HQR.out (i := 3) (.slice (some ⟨w5.heap.size, 0, none⟩) 1 1))
        have HA5 : Hid (RdAt ((w5.alloc (.cells #[.string t.name, .int .i64 t.how, .int .i64 t.v.ty, .int .i64 t.v.n, .string t.v.s] 40)).setCell ⟨q, 3, none⟩ (.slice (some ⟨w5.heap.size, 0, none⟩) 1 1)) r s l5) := by
          obtain ⟨p', g1, g2, g3⟩ := ha5.below hba
          exact ⟨p', g1, g2, setCell_oth g3 HNE.out.symm 3 _⟩
        have HO5 : Hid (Own ((w5.alloc (.cells #[.string t.name, .int .i64 t.how, .int .i64 t.v.ty, .int .i64 t.v.n, .string t.v.s] 40)).setCell ⟨q, 3, none⟩ (.slice (some ⟨w5.heap.size, 0, none⟩) 1 1)) w.heap.size 40 5 (.slice (some ⟨w5.heap.size, 0, none⟩) 1 1) [t].length ([t].flatMap Tst.enc)) :=
          (own_of_block (cs := [t].flatMap Tst.enc) (n := [t].length) hn5 HK5.out.size rfl (by show 1 ≤ maxLen; unfold maxLen; omega)).same (Same.setCell (p := ⟨q, 3, none⟩) hz5 (by decide) _)
        clear hk5 ha5 hba hz5 hn5 hr5 HK5
        go_upto_block 0 with fail
        clear x3 f3
        generalize (w5.alloc (.cells #[.string t.name, .int .i64 t.how, .int .i64 t.v.ty, .int .i64 t.v.n, .string t.v.s] 40)).setCell ⟨q, 3, none⟩ (.slice (some ⟨w5.heap.size, 0, none⟩) 1 1) = w6 at *
        generalize (Value.slice (some ⟨w5.heap.size, 0, none⟩) 1 1) = v5 at *
        have HTL : Hid (∀ x ∈ [t], x.ok) := fun x hx => by rw [List.mem_singleton.1 hx]; exact HTO.out
        have HN5 : Hid ([t].length + l5.length ≤ 1048577 ∧ l5.length ≤ r'.length) := by have g1 := HA5.out.len; unfold Sm at hs; exact ⟨by simp; omega, HL5.out⟩
        clear HK4 HA4 HZ4 HTO HL5
        -- a cut: the mask [.k, .k, .k, .k, .k, .k, .k, .k, .k, .k, .k, .k, .k, .k, .k, .k, .k, .k, .k, .k, .k, .k, .k, .k, .k, .k, .k, .k, .k, .k, .k, .k, .k, .k, .k, .k, .k, .k, .k, .y 39, .y 40, .y 41, .y 42, .y 43, .y 44, .y 45, .y 46, .y 47, .y 48, .k], the slots 0 0 0 0, the relation fun _ _ _ _ wx => ∃ (ts : List Tst) (l9 : List UInt8) (v9 : Value), Hid (pFst fst l = .ok (⟨b, k, kn, ts⟩, l9)) ∧ Hid (RdK r w wx) ∧ Hid (RdAt wx r s l9) ∧ Hid (StB wx q b k kn v9) ∧ Hid (Own wx w.heap.size 40 5 v9 ts.length (ts.flatMap Tst.enc)) ∧ Hid (∀ x ∈ ts, x.ok)
        apply wp_cutm [.k, .k, .k, .k, .k, .k, .k, .k, .k, .k, .k, .k, .k, .k, .k, .k, .k, .k, .k, .k, .k, .k, .k, .k, .k, .k, .k, .k, .k, .k, .k, .k, .k, .k, .k, .k, .k, .k, .k, .y 39, .y 40, .y 41, .y 42, .y 43, .y 44, .y 45, .y 46, .y 47, .y 48, .k] 0 0 0 0 (by decide +kernel) (fun _ _ _ _ wx => ∃ (ts : List Tst) (l9 : List UInt8) (v9 : Value), Hid (pFst fst l = .ok (⟨b, k, kn, ts⟩, l9)) ∧ Hid (RdK r w wx) ∧ Hid (RdAt wx r s l9) ∧ Hid (StB wx q b k kn v9) ∧ Hid (Own wx w.heap.size 40 5 v9 ts.length (ts.flatMap Tst.enc)) ∧ Hid (∀ x ∈ ts, x.ok))
        case first =>
          -- within a cut
          intro JJ KK hmeet hnext
          -- of what is to be done behind only the innermost is kept
          rename ∀ (a : Act) (w : World), Code.wp _ _ _ a w → _ => hkeep
          revert hkeep
          repeat (rename ∀ (a : Act) (w : World), Code.wp _ _ _ a w → _ => hz; clear hz)
          intro hkeep
          go_wp2_with fail
          -- a loop: the mask [.k, .k, .k, .k, .k, .k, .k, .k, .k, .k, .k, .k, .k, .k, .k, .k, .k, .k, .k, .k, .k, .k, .k, .k, .k, .k, .k, .k, .k, .k, .k, .k, .k, .k, .k, .k, .k, .k, .k, .y 39, .y 40, .y 41, .y 42, .y 43, .y 44, .y 45, .y 46, .y 47, .y 48, .k], the slots 0 0 0 0, the relation fun _ _ _ _ wr => ∃ (acc : List Tst) (m : Nat) (lk : List UInt8) (vk : Value), Hid (pFst fst l = withTs b k kn (pTsR acc m lk)) ∧ Hid (acc.length + lk.length ≤ 1048577 ∧ lk.length ≤ m) ∧ Hid (RdK r w wr) ∧ Hid (RdAt wr r s lk) ∧ Hid (StB wr q b k kn vk) ∧ Hid (Own wr w.heap.size 40 5 vk acc.length (acc.flatMap Tst.enc)) ∧ Hid (∀ x ∈ acc, x.ok), the measure fun _ _ _ _ wr => rdM wr r s.size
          apply wp_loopm [.k, .k, .k, .k, .k, .k, .k, .k, .k, .k, .k, .k, .k, .k, .k, .k, .k, .k, .k, .k, .k, .k, .k, .k, .k, .k, .k, .k, .k, .k, .k, .k, .k, .k, .k, .k, .k, .k, .k, .y 39, .y 40, .y 41, .y 42, .y 43, .y 44, .y 45, .y 46, .y 47, .y 48, .k] 0 0 0 0 (by decide +kernel) rfl (fun _ _ _ _ wr => ∃ (acc : List Tst) (m : Nat) (lk : List UInt8) (vk : Value), Hid (pFst fst l = withTs b k kn (pTsR acc m lk)) ∧ Hid (acc.length + lk.length ≤ 1048577 ∧ lk.length ≤ m) ∧ Hid (RdK r w wr) ∧ Hid (RdAt wr r s lk) ∧ Hid (StB wr q b k kn vk) ∧ Hid (Own wr w.heap.size 40 5 vk acc.length (acc.flatMap Tst.enc)) ∧ Hid (∀ x ∈ acc, x.ok)) (fun _ _ _ _ wr => rdM wr r s.size) _ _ _ _ rfl rfl rfl rfl
          case start => exact ⟨[t], r'.length, l5, v5, HTS5, HN5, HK5', HA5, HZ5, HO5, HTL⟩
          case round =>
            -- a round: the names _ _ _ _ (four), the world's name
            intro ff _ _ _ _ wr hrel
            dsimp only [spread]
            clear HTS5 HN5 HK5' HA5 HZ5 HO5 HTL
            obtain ⟨acc, m, lk, vk, HTK, HNK, HKK, HAK, HZK, HOK, HTL⟩ := hrel
            obtain ⟨wo, hwo⟩ : ∃ wo : World, wo = wr := ⟨_, rfl⟩
            subst hwo
            have HM := Lib.hid (rdM_at HAK.out)
            have hx := need_any ends2 s hs (by decide +kernel) r lk wo HAK.out
            cases hp : pAny ends2.data.toList lk with
            | error n =>
              rw [hp] at hx
              have HERR : Hid (pFst fst l = .error n) := by unfold Hid; rw [HTK.out, tsR_e hp]; rfl
              clear hp
              -- a call stops the reading: HERR: the whole stops so; HKK: what stays till then
              go_wp2_with fail
              refine hx.mono ?_
              clear hx
              rintro e w9 ⟨hk9, hn, rfl⟩
              have HK9 := Lib.hid (((HKK).out).trans hk9)
              have HN := Lib.hid hn
              clear hk9 hn
              go_wp2_with fail
              rw [(HERR).out]
              exact ⟨rfl, HK9.out, HN.out, rfl⟩
            | ok cr =>
              obtain ⟨c, l7⟩ := cr
              rw [hp] at hx
              obtain ⟨hlk, hcm⟩ := any_hit hp
              subst hlk
              have hcc := (ends2_in c).1 hcm
              clear hp hcm
              by_cases hc44 : c = 44
              · subst hc44
                clear hcc
                have HT2 : Hid (pFst fst l = withTs b k kn (pTs acc m l7)) := by unfold Hid; rw [HTK.out, tsR_more]
                go_wp2_with fail
                refine hx.mono ?_
                clear hx
                rintro e w7 ⟨hk7, v, rfl, rfl, ha7⟩
                have HK7 := Lib.hid (HKK.out.trans hk7)
                have HA7 := Lib.hid ha7
                have HZ7 : Hid (StB w7 q b k kn vk) := hk7.block HZK.out HNE.out
                have HO7 := Lib.hid (HOK.out.same (hk7.same HAK.out (by decide)))
                clear hk7 ha7 HKK HAK HZK HOK
                obtain ⟨A7, c7, rfl, _, _⟩ := HO7.out.form
                have ha7' : RdAt w7.drew r s l7 := HA7.out
                have hk7' : RdK r w w7.drew := HK7.out.drew
                have hx := test_rd s hs r l7 w7.drew wB HTS.out HGS.out hBr (HBW.out.trans (hk7'.bel.mono hBr)) ha7'
                have hz7 : w7.heap[q]? = some (.cells #[.string b, .bool k, .string kn, .slice A7 acc.length c7] 30 (0, 0)) := HZ7.out
                have y3 := block_cell hz7 3
                have HZ7d : Hid (w7.drew.heap[q]? = some (.cells #[.string b, .bool k, .string kn, .slice A7 acc.length c7] 30 (0, 0))) := hz7
                have HO7d : Hid (Own w7.drew w.heap.size 40 5 (.slice A7 acc.length c7) acc.length (acc.flatMap Tst.enc)) := HO7.out.below ((Below.refl _ _).drew)
                have HK7d := Lib.hid hk7'
                have HA7d := Lib.hid ha7'
                clear hz7 ha7' hk7'
                go_upto_region 15 with fail
                cases hp : pTest l7 with
                | error n =>
                  have HERR : Hid (pFst fst l = .error n) := by
                    unfold Hid
                    rw [HT2.out]
                    cases m with
                    | zero => exact absurd HNK.out.2 (by simp)
                    | succ m => rw [ts_e hp]; rfl
                  rw [hp] at hx
                  clear hp
                  have y3d := block_cell HZ7d.out 3
                  go_region_law
                    (first
                      | (refine step_callp rfl 26 #[.pointer (some ⟨r, 0, none⟩)] (by kernel_rfl) hx ?_ ?_
                         · clear hx
                           rintro e w8 ⟨hk8, hn, rfl⟩
                           exact ⟨_, rfl, rfl, by rw [HERR.out]; exact ⟨HK7d.out.trans hk8, hn, rfl⟩⟩))
                  all_goals trivial
                | ok tr =>
                  obtain ⟨t, l8⟩ := tr
                  rw [hp] at hx
                  have HT8 : Hid (pFst fst l = withTs b k kn (pTsR (acc ++ [t]) (m - 1) l8)) := by
                    unfold Hid
                    rw [HT2.out]
                    cases m with
                    | zero => exact absurd HNK.out.2 (by simp)
                    | succ m => rw [ts_ok hp]; rfl
                  have HTO : Hid (t.ok) := tst_okx hp (by have := HA7.out.len; unfold Sm at hs; omega)
                  have HL8 : Hid ((acc ++ [t]).length + l8.length ≤ 1048577 ∧ l8.length ≤ m - 1) := by
                    have g1 := test_len hp
                    have g2 := HNK.out
                    simp only [List.length_cons] at g2
                    refine ⟨?_, by omega⟩
                    rw [List.length_append, List.length_singleton]; omega
                  have HL8m : Hid (l8.length ≤ l7.length) := test_len hp
                  have hal : acc.length ≤ 1048577 := by have g2 := HNK.out.1; omega
                  have y3d := block_cell HZ7d.out 3
                  clear hp y3
                  go_region_law
                    (first
                      | (refine step_callx rfl 26 #[.pointer (some ⟨r, 0, none⟩)] (by kernel_rfl) hx ?_
                         clear hx
                         rintro e w8 ⟨hk8, v, rfl, hv, ha8⟩
                         replace hv : v = .agg #[.string t.name, .int .i64 t.how, .int .i64 t.v.ty, .int .i64 t.v.n, .string t.v.s] := hv
                         subst hv
                         refine ⟨_, rfl, ?_⟩
                         have hz8 := hk8.block HZ7d.out HNE.out
                         have y8 := block_cell hz8 3
                         have HZ8 := Lib.hid hz8
                         have HK8 := Lib.hid (HK7d.out.trans hk8)
                         have HA8 := Lib.hid ha8
                         have HO8 : Hid (Own (w8.alloc (.cells #[.string t.name, .int .i64 t.how, .int .i64 t.v.ty, .int .i64 t.v.n, .string t.v.s] 40)) w.heap.size 40 5 (.slice A7 acc.length c7) acc.length (acc.flatMap Tst.enc)) := (HO7d.out.same (hk8.same HA7d.out (by decide))).alloc _
                         have HN8 := Lib.hid (five_cells w8 (.string t.name) (.int .i64 t.how) (.int .i64 t.v.ty) (.int .i64 t.v.n) (.string t.v.s) 40)
                         have HKA := Lib.hid (HK8.out.trans (RdK.of (Nat.le_of_lt ha8.lt) ((Below.refl w8.heap.size w8).alloc (Nat.le_refl _) (.cells #[.string t.name, .int .i64 t.how, .int .i64 t.v.ty, .int .i64 t.v.n, .string t.v.s] 40))))
                         have HAA := Lib.hid (ha8.below ((Below.refl w8.heap.size w8).alloc (Nat.le_refl _) (.cells #[.string t.name, .int .i64 t.how, .int .i64 t.v.ty, .int .i64 t.v.n, .string t.v.s] 40)))
                         have HZA := Lib.hid ((((Below.refl w8.heap.size w8).alloc (Nat.le_refl _) (.cells #[.string t.name, .int .i64 t.how, .int .i64 t.v.ty, .int .i64 t.v.n, .string t.v.s] 40)).block _ (Array.getElem?_eq_some_iff.1 hz8).1).trans hz8)
                         have yA := block_cell HZA.out 3
                         clear hk8 ha8 hz8)
                      | (refine step_here rfl ?_
                         refine wp_append_q _ (.tmp 43) (.tmp 46) _ rfl w.heap.size 40 i0 (.agg #[.string .empty, .int .i64 0, .int .i64 0, .int .i64 0, .string .empty]) 5 56 Tryd.underlying28 ei ez ez1 ez2 rfl (by decide) (.slice A7 acc.length c7) acc.length (acc.flatMap Tst.enc) rfl HO8.out (some ⟨w8.heap.size, 0, none⟩) 1 1 [.string t.name, .int .i64 t.how, .int .i64 t.v.ty, .int .i64 t.v.n, .string t.v.s] rfl rfl (fun _ => ⟨_, rfl, fun j u hj => by rw [addr_add, Nat.zero_add]; exact HN8.out j u hj⟩) (fun u hu => by simp at hu; rcases hu with rfl | rfl | rfl | rfl | rfl <;> rfl) (by go_light; unfold maxLen; omega) (by go_light; omega) HKA.out.size ?_
                         intro v9 w9 hown9 hg9 hat9
                         have hz9 := grown_block hg9 HZA.out (HO8.out.ne_block HZA.out (by decide))
                         have y9 := block_cell hz9 3
                         have f9 := block_free hz9 3
                         have HZ9 := Lib.hid hz9
                         have HO9 := Lib.hid hown9
                         have HG9 := Lib.hid hg9
                         obtain ⟨A9, c9, hv9, _, _⟩ := hown9.form
                         subst hv9
                         clear hown9 hg9 hat9 hz9))
                  all_goals
                    have HZx : Hid (StB (w9.setCell ⟨q, 3, none⟩ (.slice A9 (acc.length + 1) c9)) q b k kn (.slice A9 (acc.length + 1) c9)) := setCell_block HZ9.out 3 _
                    have HKx := Lib.hid ((HKA.out.grown HG9.out (by have g1 := HRL.out; have g2 := HQ.out; omega) (fun kk e => (HO8.out.lt kk e).1)).setNew HQW.out HQR.out (i := 3) (.slice A9 (acc.length + 1) c9))
                    have HAx : Hid (RdAt (w9.setCell ⟨q, 3, none⟩ (.slice A9 (acc.length + 1) c9)) r s l8) := by
                      obtain ⟨p', g1, g2, g3⟩ := HAA.out
                      exact ⟨p', g1, g2, setCell_oth (grown_block HG9.out g3 (HO8.out.ne_block g3 (by decide))) HNE.out.symm 3 _⟩
                    have HOx : Hid (Own (w9.setCell ⟨q, 3, none⟩ (.slice A9 (acc.length + 1) c9)) w.heap.size 40 5 (.slice A9 (acc.length + 1) c9) (acc ++ [t]).length ((acc ++ [t]).flatMap Tst.enc)) := by
                      have h9 := HO9.out.same (Same.setCell (p := ⟨q, 3, none⟩) HZ9.out (by decide) (.slice A9 (acc.length + 1) c9))
                      unfold Hid
                      rw [← flat_snoc, List.length_append]
                      exact h9
                    have HTx : Hid (∀ x ∈ acc ++ [t], x.ok) := fun x hx => by
                      rcases List.mem_append.1 hx with h | h
                      · exact HTL.out x h
                      · rw [List.mem_singleton.1 h]; exact HTO.out
                    have HMx := Lib.hid (rdM_at HAx.out)
                    have HLL : Hid (l8.length < l7.length + 1) := by have g := HL8m.out; unfold Hid; omega
                    clear y3d y8 yA y9 f9
                    go_wp2_with fail
                    -- a round's end: the relation, the measure
                    apply Rounded.at _ _ _ _ _ rfl rfl rfl rfl rfl rfl
                    case rel => exact ⟨acc ++ [t], m - 1, l8, _, HT8, HL8, HKx, HAx, HZx, HOx, HTx⟩
                    case measure => rw [HMx.out, HM.out]; exact HLL.out
              · obtain rfl : c = 93 := hcc.resolve_left hc44
                have HRES : Hid (pFst fst l = .ok (⟨b, k, kn, acc⟩, l7)) := by unfold Hid; rw [HTK.out, tsR_end]; rfl
                clear hcc hc44
                go_wp2_with fail
                refine hx.mono ?_
                clear hx
                rintro e w7 ⟨hk7, v, rfl, rfl, ha7⟩
                have HK7 := Lib.hid (HKK.out.trans hk7)
                have HA7 := Lib.hid ha7
                have HZ7 : Hid (StB w7 q b k kn vk) := hk7.block HZK.out HNE.out
                have HO7 := Lib.hid (HOK.out.same (hk7.same HAK.out (by decide)))
                clear hk7 ha7
                go_wp2_with fail
                -- a way's end
                refine Met.intro ?_
                go_step
                refine Forgot.at _ _ _ _ _ rfl rfl rfl rfl rfl rfl ?_
                exact ⟨acc, l7, vk, HRES, HK7, HA7, HZ7, HO7, HTL⟩
        case rest =>
        -- behind a cut: the names of the slots' values _ _ _ _ (four)
        intro ff _ _ _ _ wc hcut
        dsimp only [spread]
        clear HTS5 HN5 HK5' HA5 HZ5 HO5 HTL
        obtain ⟨w8, hw8⟩ : ∃ y : World, y = wc := ⟨_, rfl⟩
        subst hw8
        obtain ⟨ts, l9, v9, HRES, HKe, HAe, HZ8, HOWN, HTOK⟩ := hcut
        have HOWN : Hid (Own w8 wB.heap.size 40 5 v9 ts.length (ts.flatMap Tst.enc)) := HOWN.out.mono (by have g1 := HRL.out; have g2 := HQ.out; omega)
        obtain ⟨A9, c9, rfl, _, _⟩ := HOWN.out.form
        have HZe : Hid (w8.heap[q]? = some (.cells #[.string b, .bool k, .string kn, .slice A9 ts.length c9] 30 (0, 0))) := HZ8.out
        clear HZ8
        -- the step is whole: w8: the world; .slice A9 ts.length c9: the tests' slice; ts: the tests; l9: what is left; facts HZe (StB), HKe, HAe, HRES, HOWN, HTOK
        have g0 := block_cell HZe.out 0
        have g1 := block_cell HZe.out 1
        have g2 := block_cell HZe.out 2
        have g3 := block_cell HZe.out 3
        have f0 := block_free HZe.out 0
        have f1 := block_free HZe.out 1
        have f2 := block_free HZe.out 2
        have f3 := block_free HZe.out 3
        have HZx : Hid ((((((w8).setCell ⟨q, 0, none⟩ (.string b)).setCell ⟨q, 1, none⟩ (.bool k)).setCell ⟨q, 2, none⟩ (.string kn)).setCell ⟨q, 3, none⟩ (.slice A9 ts.length c9)).heap[q]? = some (.cells #[.string b, .bool k, .string kn, .slice A9 ts.length c9] 30 (0, 0))) := setCell_block (setCell_block (setCell_block (setCell_block HZe.out 0 (.string b)) 1 (.bool k)) 2 (.string kn)) 3 (.slice A9 ts.length c9)
        have HKx := Lib.hid ((((HKe.out.setNew HQW.out HQR.out (i := 0) (.string b)).setNew HQW.out HQR.out (i := 1) (.bool k)).setNew HQW.out HQR.out (i := 2) (.string kn)).setNew HQW.out HQR.out (i := 3) (.slice A9 ts.length c9))
        have HAx : Hid (RdAt (((((w8).setCell ⟨q, 0, none⟩ (.string b)).setCell ⟨q, 1, none⟩ (.bool k)).setCell ⟨q, 2, none⟩ (.string kn)).setCell ⟨q, 3, none⟩ (.slice A9 ts.length c9)) r s l9) := by
          obtain ⟨p', g1, g2, g3⟩ := HAe.out
          exact ⟨p', g1, g2, setCell_oth (setCell_oth (setCell_oth (setCell_oth g3 HNE.out.symm 0 _) HNE.out.symm 1 _) HNE.out.symm 2 _) HNE.out.symm 3 _⟩
        have HOx : Hid (Own (((((w8).setCell ⟨q, 0, none⟩ (.string b)).setCell ⟨q, 1, none⟩ (.bool k)).setCell ⟨q, 2, none⟩ (.string kn)).setCell ⟨q, 3, none⟩ (.slice A9 ts.length c9)) wB.heap.size 40 5 (.slice A9 ts.length c9) (ts).length ((ts).flatMap Tst.enc)) := by
          have hq0 : (w8).heap[q]? = some (.cells #[.string b, .bool k, .string kn, .slice A9 ts.length c9] 30 (0, 0)) := HZe.out
          exact HOWN.out.same (((Same.setCell (p := ⟨q, 0, none⟩) hq0 (by decide) _).trans (Same.setCell (p := ⟨q, 1, none⟩) (setCell_block hq0 0 _) (by decide) _)).trans ((Same.setCell (p := ⟨q, 2, none⟩) (setCell_block (setCell_block hq0 0 _) 1 _) (by decide) _).trans (Same.setCell (p := ⟨q, 3, none⟩) (setCell_block (setCell_block (setCell_block hq0 0 _) 1 _) 2 _) (by decide) _)))
        go_wp2_with fail
        have p0 := block_cell HZx.out 0
        have p1 := block_cell HZx.out 1
        have p2 := block_cell HZx.out 2
        have p3 := block_cell HZx.out 3
        rw [HRES.out]
        exact bodyPost_ret (v := .agg #[.string b, .bool k, .string kn, .slice A9 ts.length c9]) (by simp [results, Tryd.results16, go_sem, p0, p1, p2, p3]) rfl ⟨HKx.out, _, rfl, ⟨_, rfl, HLB.out.2, HKN.out, HTOK.out, HOx.out⟩, HAx.out⟩
end Go.Proofs.YtakidgndipnciaaDoor
