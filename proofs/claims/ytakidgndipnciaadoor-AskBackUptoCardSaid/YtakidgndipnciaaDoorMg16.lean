/- Parts: RcA, RxE. -/
import Derived.Test.YtakidgndipnciaaDoorMg08
import Derived.Test.YtakidgndipnciaaDoorMg05
import Derived.Test.YtakidgndipnciaaDoorMg03
import Derived.Test.YtakidgndipnciaaDoorMg04
import Derived.Test.YtakidgndipnciaaDoorMg12
import Derived.Test.YtakidgndipnciaaDoorMg15
import Derived.Laws.BytesArg
/- Contract: record.Cut: a text cut at a sign that is in no quotes. Conditions: the text is not too long; the sign is no quote. -/
namespace Go.Proofs.YtakidgndipnciaaDoor
open Go Go.RowKit




def Sgn5 (w : World) : Prop := SgnOk w ∧ w.cell? ⟨0, 0, none⟩ = some (.string .empty)
theorem Sgn5.below {w w' : World} (h : Sgn5 w) (hb : Below w.heap.size w w') : Sgn5 w' := ⟨h.1.below hb, cell_below hb h.2⟩
def sgL (k : Nat) : List UInt8 := match k with | 1 => [61] | 2 => [33] | 3 => [60] | _ => []
theorem sgn5_cell {w : World} (h : Sgn5 w) {k : Nat} (hk : k < 5) : w.cell? ⟨0, k, none⟩ = some (.string (bs (sgL k))) := by
  obtain ⟨⟨e1, e2, e3, e4⟩, e0⟩ := h
  rcases (by omega : k = 0 ∨ k = 1 ∨ k = 2 ∨ k = 3 ∨ k = 4) with rfl | rfl | rfl | rfl | rfl
  · exact e0
  · exact e1
  · exact e2
  · exact e3
  · exact e4
set_option maxHeartbeats 1000000 in
theorem sg_any (cs : ByteArray) (m : Nat) (hm : m < 5) (hc : bs (sgL m) = cs) (hf : ∀ j, j < m → bs (sgL j) ≠ cs) (w : World) (hT : Sgn5 w) :
    Calls Tryd.prog 39 #[.slice (some ⟨0, 0, none⟩) 5 5, .string cs] w fun e w' => e = .returned (.int .i64 (m : Int)) ∧ w' = w := by
  have HT := Lib.hid hT
  have HC := Lib.hid hc
  have HF := Lib.hid hf
  clear hT hc hf
  go_enter Tryd.func39, Tryd.ntmps39
  go_wp2_with fail
  go_loopw [8] (fun i wr => ∃ k : Nat, k ≤ m ∧ i = .int .i64 k ∧ w = wr) (fun i _ => 5 - (intOf i).toNat)
  case atStart => exact ⟨0, by omega, rfl, rfl⟩
  case round =>
    obtain ⟨k, hk, rfl, rfl⟩ := hrel
    have hlt' : (k : Int) < 5 := by omega
    have y := sgn5_cell HT.out (show k < 5 by omega)
    by_cases he : k = m
    · subst he
      have b2 : cs.toList = (bs (sgL k)).toList := by rw [HC.out]
      have b1 : (cs.toList == (bs (sgL k)).toList) = true := by rw [b2]; exact beq_self_eq_true _
      generalize bs (sgL k) = T at *
      go_wp2_with fail
      go_ret
      exact ⟨rfl, rfl⟩
    · have b2 : ¬ cs.toList = (bs (sgL k)).toList := fun e => HF.out k (by omega) (by rw [bytes_eq] at e; exact e.symm)
      have b1 : (cs.toList == (bs (sgL k)).toList) = false := beq_eq_false_iff_ne.2 b2
      generalize bs (sgL k) = T at *
      go_wp2_with fail
      go_roundw
      case rel => exact ⟨k + 1, by omega, by go_num, trivial⟩
      case measure => simp [intOf]; omega
theorem RdK.drew {r : Nat} {w w' : World} (h : RdK r w w') : RdK r w w'.drew := ⟨h.bel.drew, h.up⟩
/-- A test, cell by cell. -/
def tstV (t : Tst) : Value := .agg #[.string t.name, .int .i64 t.how, .int .i64 t.v.ty, .int .i64 t.v.n, .string t.v.s]
theorem pTest_err {l : List UInt8} {n : Nat} (h : pName l = .error n) : pTest l = .error n := by unfold pTest; rw [h]
theorem pTest_sign {l r : List UInt8} {n : ByteArray} (h : pName l = .ok (n, r)) : pTest l = pSign n r := by unfold pTest; rw [h]
def signsL : ByteArray := ⟨#[61, 33, 60]⟩
theorem signs_in (x : UInt8) : x ∈ signsL.data.toList ↔ (x = 61 ∨ x = 33 ∨ x = 60) := by
  show x ∈ [61, 33, 60] ↔ _
  simp
/-- A row of one byte, as a text. -/
theorem one_conv (c : UInt8) (w : World) : (convert 44 9 (.slice (some ⟨w.heap.size, 0, none⟩) 1 1)).run Tryd.prog (w.alloc (.cells #[.int .u8 (c.toNat : Int)] 5)).drew = .ok (.string ⟨#[c]⟩) (w.alloc (.cells #[.int .u8 (c.toNat : Int)] 5)).drew := by
  have h := run_convert_bytes_arg (P := Tryd.prog) (w.alloc (.cells #[.int .u8 (c.toNat : Int)] 5)).drew 44 5 Tryd.underlying44 Tryd.underlying5 w.heap.size 0 1 1 [(c.toNat : Int)] rfl (fun i hi => by
    obtain rfl : i = 0 := by omega
    show (w.alloc (.cells #[.int .u8 (c.toNat : Int)] 5)).cell? ⟨w.heap.size, 0, none⟩ = _
    rw [World.cell?_alloc_at _ _ _ _ rfl]; rfl) 9 Tryd.underlying9
  rw [h]
  simp [strOfNums]
set_option maxRecDepth 100000 in
set_option maxHeartbeats 8000000 in
theorem test_rd (s : ByteArray) (hs : Sm s) (r : Nat) (l : List UInt8) (w : World) (wB : World) (hT : TxOk wB) (hG : Sgn5 wB) (hBr : wB.heap.size ≤ r) (hBw : Below wB.heap.size wB w) (h : RdAt w r s l) :
    Calls Tryd.prog 26 #[.pointer (some ⟨r, 0, none⟩)] w fun e w' => Rd r s w (pTest l) (fun t u _ => u = tstV t) e w' := by
  have hrl := h.lt
  have HRL := Lib.hid hrl
  have HBW := Lib.hid hBw
  have HTS := Lib.hid hT
  have HGS := Lib.hid hG
  have ha := (Below.refl w.heap.size w).alloc (Nat.le_refl _) (.cells #[.string ⟨#[]⟩, .int .i64 0, .int .i64 0, .int .i64 0, .string ⟨#[]⟩] 40)
  have hz := heap_alloc_new w (.cells #[.string ⟨#[]⟩, .int .i64 0, .int .i64 0, .int .i64 0, .string ⟨#[]⟩] 40)
  have HK0 := Lib.hid (RdK.of (Nat.le_of_lt hrl) ha)
  have HNE : Hid (w.heap.size ≠ r) := by unfold Hid; omega
  have hx := name_rd s hs r l (w.alloc (.cells #[.string ⟨#[]⟩, .int .i64 0, .int .i64 0, .int .i64 0, .string ⟨#[]⟩] 40)) (h.below ha)
  clear h ha hBw hT hG hrl
  go_enter Tryd.func26, Tryd.ntmps26
  go_upto_region 1 with fail
  generalize w.alloc (.cells #[.string ⟨#[]⟩, .int .i64 0, .int .i64 0, .int .i64 0, .string ⟨#[]⟩] 40) = W0 at *
  generalize hq : w.heap.size = q at *
  have HZ := Lib.hid hz
  have HQ := Lib.hid hq
  clear hz hq
  cases hp : pName l with
  | error n =>
    rw [hp] at hx
    have HP := Lib.hid (pTest_err hp)
    clear hp
    go_wp2_with fail
    refine hx.mono ?_
    clear hx
    rintro e w1 ⟨hk1, hn, rfl⟩
    have HK := Lib.hid hk1
    have HN := Lib.hid hn
    clear hk1 hn
    go_wp2_with fail
    rw [HP.out]
    exact ⟨rfl, HK0.out.trans HK.out, HN.out, rfl⟩
  | ok c =>
    obtain ⟨nm, l1⟩ := c
    rw [hp] at hx
    have HP := Lib.hid (pTest_sign hp)
    clear hp
    go_wp2_with fail
    refine hx.mono ?_
    clear hx
    rintro e w1 ⟨hk1, v, rfl, rfl, ha1⟩
    have HK1 := Lib.hid (HK0.out.trans hk1)
    have hr1 := ha1.lt
    have hba := (Below.refl w1.heap.size w1).alloc (Nat.le_refl _) (.cells #[.string nm, .int .i64 4, .int .i64 0, .int .i64 0, .string ⟨#[]⟩] 40)
    have hbx := heap_alloc_new w1 (.cells #[.string nm, .int .i64 4, .int .i64 0, .int .i64 0, .string ⟨#[]⟩] 40)
    have HZ1 := Lib.hid (hba.block _ (Array.getElem?_eq_some_iff.1 (hk1.block HZ.out HNE.out)).1 |>.trans (hk1.block HZ.out HNE.out))
    have HA2 := Lib.hid (ha1.below hba)
    have HK2 := Lib.hid (HK1.out.trans (RdK.of (Nat.le_of_lt hr1) hba))
    have hx := next_any signsL s hs r l1 (w1.alloc (.cells #[.string nm, .int .i64 4, .int .i64 0, .int .i64 0, .string ⟨#[]⟩] 40)) HA2.out
    have HQB : Hid (w1.heap.size ≠ r) := by unfold Hid; omega
    have HQQ : Hid (w1.heap.size ≠ q) := by
      have := (Array.getElem?_eq_some_iff.1 (hk1.block HZ.out HNE.out)).1
      unfold Hid; omega
    have HQR : Hid (r < w1.heap.size) := hr1
    have HQL : Hid (w.heap.size ≤ w1.heap.size) := HK1.out.size
    clear ha1 hk1 hr1 hba
    go_upto_region 2 with fail
    generalize w1.alloc (.cells #[.string nm, .int .i64 4, .int .i64 0, .int .i64 0, .string ⟨#[]⟩] 40) = w2 at *
    generalize w1.heap.size = qb at *
    have HBX := Lib.hid hbx
    clear hbx
    by_cases hsg : ∃ c r', l1 = c :: r' ∧ (c = 61 ∨ c = 33 ∨ c = 60)
    · obtain ⟨c, r', rfl, hc⟩ := hsg
      obtain ⟨m, hm1, hm3, hmc, hmf, hms⟩ : ∃ m : Nat, 1 ≤ m ∧ m ≤ 3 ∧ bs (sgL m) = ⟨#[c]⟩ ∧ (∀ j, j < m → bs (sgL j) ≠ ⟨#[c]⟩) ∧ pSign nm (c :: r') = pHow nm (m : Int) r' := by
        rcases hc with rfl | rfl | rfl
        · exact ⟨1, by decide, by decide, rfl, fun j hj => by rw [show j = 0 by omega]; decide, rfl⟩
        · exact ⟨2, by decide, by decide, rfl, fun j hj => by rcases (by omega : j = 0 ∨ j = 1) with rfl | rfl <;> decide, rfl⟩
        · exact ⟨3, by decide, by decide, rfl, fun j hj => by rcases (by omega : j = 0 ∨ j = 1 ∨ j = 2) with rfl | rfl | rfl <;> decide, rfl⟩
      rw [pNext_hit ((signs_in c).2 hc)] at hx
      have hcp : (0 : Int) < (c.toNat : Int) := by rcases hc with rfl | rfl | rfl <;> decide
      have HPH := Lib.hid hms
      have HIX := Lib.hid (fun W hW => sg_any ⟨#[c]⟩ m (by omega) hmc hmf W hW)
      clear hc hms hmc hmf
      go_wp2_with fail
      refine hx.mono ?_
      clear hx
      rintro e w3 ⟨rfl, hk3, ha3⟩
      have HK3 := Lib.hid (HK2.out.trans hk3)
      have HA3 := Lib.hid ha3
      have HB3 := Lib.hid (hk3.block HBX.out HQB.out)
      have HZ3 := Lib.hid (hk3.block HZ1.out HNE.out)
      clear hk3 ha3
      have x1 := block_cell HB3.out 1
      have f1 := block_free HB3.out 1
      have hcv : (convert 44 9 (.slice (some ⟨w3.heap.size, 0, none⟩) 1 1)).run Tryd.prog (w3.alloc (.cells #[.int .u8 (c.toNat : Int)] 5)).drew = .ok (.string ⟨#[c]⟩) (w3.alloc (.cells #[.int .u8 (c.toNat : Int)] 5)).drew := one_conv c w3
      have HBD : Hid (Below w3.heap.size w3 (w3.alloc (.cells #[.int .u8 (c.toNat : Int)] 5)).drew) := ((Below.refl _ _).alloc (Nat.le_refl _) _).drew
      go_upto_region 4 with fail
      have hix := HIX.out _ (HGS.out.below (HBW.out.trans ((HK3.out.bel.trans (HBD.out.mono (Nat.le_of_lt HA3.out.lt))).mono hBr)))
      have HB4 := Lib.hid ((HBD.out.block _ (Array.getElem?_eq_some_iff.1 HB3.out).1).trans HB3.out)
      have k1 := block_cell HB4.out 1
      have l1' := block_free HB4.out 1
      have HB5 : Hid ((((w3.alloc (.cells #[.int .u8 (c.toNat : Int)] 5)).setCell ⟨qb, 1, none⟩ (.int .i64 (m : Int))).drew).heap[qb]? = some (.cells #[.string nm, .int .i64 (m : Int), .int .i64 0, .int .i64 0, .string ⟨#[]⟩] 40 (0, 0))) := setCell_block (w := w3.alloc (.cells #[.int .u8 (c.toNat : Int)] 5)) HB4.out 1 (.int .i64 (m : Int))
      have HK5 : Hid (RdK r w (((w3.alloc (.cells #[.int .u8 (c.toNat : Int)] 5)).setCell ⟨qb, 1, none⟩ (.int .i64 (m : Int))).drew)) := RdK.drew <| RdK.setNew (HK3.out.trans (RdK.of (Nat.le_of_lt HA3.out.lt) ((Below.refl w3.heap.size w3).alloc (Nat.le_refl _) (.cells #[.int .u8 (c.toNat : Int)] 5)))) HQL.out (Nat.le_of_lt HQR.out) _
      have HZ5 : Hid ((((w3.alloc (.cells #[.int .u8 (c.toNat : Int)] 5)).setCell ⟨qb, 1, none⟩ (.int .i64 (m : Int))).drew).heap[q]? = some (.cells #[.string ⟨#[]⟩, .int .i64 0, .int .i64 0, .int .i64 0, .string ⟨#[]⟩] 40 (0, 0))) := setCell_oth (w := w3.alloc (.cells #[.int .u8 (c.toNat : Int)] 5)) ((HBD.out.block _ (Array.getElem?_eq_some_iff.1 HZ3.out).1).trans HZ3.out) HQQ.out.symm 1 (.int .i64 (m : Int))
      have HA5 : Hid (RdAt (((w3.alloc (.cells #[.int .u8 (c.toNat : Int)] 5)).setCell ⟨qb, 1, none⟩ (.int .i64 (m : Int))).drew) r s r') := by
        obtain ⟨p', g1, g2, g3⟩ := HA3.out.below HBD.out
        exact ⟨p', g1, g2, setCell_oth (w := w3.alloc (.cells #[.int .u8 (c.toNat : Int)] 5)) g3 HQB.out.symm 1 _⟩
      clear HIX
      go_region_law
        (first
          | (refine step_callx rfl 39 #[.slice (some ⟨0, 0, none⟩) 5 5, .string ⟨#[c]⟩] (by kernel_rfl) hix ?_
             clear hix
             rintro e w10 ⟨rfl, rfl⟩
             refine ⟨_, rfl, ?_⟩))
      all_goals
        go_upto_region 5 with fail
        generalize ((w3.alloc (.cells #[.int .u8 (c.toNat : Int)] 5)).setCell ⟨qb, 1, none⟩ (.int .i64 (m : Int))).drew = w5 at *
        clear x1 f1 k1 l1' hcv
        have hx := value_rd s hs r r' w5 wB HTS.out hBr (HBW.out.trans (HK5.out.bel.mono hBr)) HA5.out
        cases hpv : pVal r' with
        | error n =>
          rw [hpv] at hx
          have HPE : Hid (pTest l = .error n) := by unfold Hid; rw [HP.out, HPH.out]; unfold pHow; rw [hpv]
          clear hpv
          go_wp2_with fail
          refine hx.mono ?_
          clear hx
          rintro e w6 ⟨hk6, hn, rfl⟩
          have HK := Lib.hid hk6
          have HN := Lib.hid hn
          clear hk6 hn
          go_wp2_with fail
          rw [HPE.out]
          exact ⟨rfl, HK5.out.trans HK.out, HN.out, rfl⟩
        | ok vr =>
          obtain ⟨⟨vt, vn, vs⟩, r2⟩ := vr
          rw [hpv] at hx
          have HPE : Hid (pTest l = .ok (⟨nm, (m : Int), ⟨vt, vn, vs⟩⟩, r2)) := by unfold Hid; rw [HP.out, HPH.out]; unfold pHow; rw [hpv]
          have HB5' : Hid (w5.heap[qb]? = some (.cells #[.string nm, .int .i64 (m : Int), .int .i64 0, .int .i64 0, .string ⟨#[]⟩] 40 (0, 0))) := HB5.out
          clear hpv
          go_wp2_with fail
          refine hx.mono ?_
          clear hx
          rintro e w6 ⟨hk6, v, rfl, rfl, ha6⟩
          have HK6 := Lib.hid (HK5.out.trans hk6)
          have HA6 := Lib.hid ha6
          have HB6 := Lib.hid (hk6.block HB5'.out HQB.out)
          have HZ6 := Lib.hid (hk6.block HZ5.out HNE.out)
          clear hk6 ha6
          have k2 := block_cell HB6.out 2
          have k3 := block_cell HB6.out 3
          have k4 := block_cell HB6.out 4
          have j2 := block_free HB6.out 2
          have j3 := block_free HB6.out 3
          have j4 := block_free HB6.out 4
          have HB7 := Lib.hid (setCell_block (setCell_block (setCell_block HB6.out 2 (.int .i64 vt)) 3 (.int .i64 vn)) 4 (.string vs))
          have HZ7 := Lib.hid (setCell_oth (setCell_oth (setCell_oth HZ6.out HQQ.out.symm 2 (.int .i64 vt)) HQQ.out.symm 3 (.int .i64 vn)) HQQ.out.symm 4 (.string vs))
          have HK7 := Lib.hid (((HK6.out.setNew HQL.out (Nat.le_of_lt HQR.out) (i := 2) (.int .i64 vt)).setNew HQL.out (Nat.le_of_lt HQR.out) (i := 3) (.int .i64 vn)).setNew HQL.out (Nat.le_of_lt HQR.out) (i := 4) (.string vs))
          have HA7 : Hid (RdAt (((w6.setCell ⟨qb, 2, none⟩ (.int .i64 vt)).setCell ⟨qb, 3, none⟩ (.int .i64 vn)).setCell ⟨qb, 4, none⟩ (.string vs)) r s r2) := by
            obtain ⟨p', g1, g2, g3⟩ := HA6.out
            exact ⟨p', g1, g2, setCell_oth (setCell_oth (setCell_oth g3 HQB.out.symm 2 _) HQB.out.symm 3 _) HQB.out.symm 4 _⟩
          go_upto_region 6 with fail
          clear k2 k3 k4 j2 j3 j4
          generalize ((w6.setCell ⟨qb, 2, none⟩ (.int .i64 vt)).setCell ⟨qb, 3, none⟩ (.int .i64 vn)).setCell ⟨qb, 4, none⟩ (.string vs) = w7 at *
          have HB8 : Hid (w7.heap[qb]? = some (.cells #[.string nm, .int .i64 (m : Int), .int .i64 vt, .int .i64 vn, .string vs] 40 (0, 0))) := HB7.out
          -- the box qb (facts: its block HB8.out) holds the cells .string nm, .int .i64 (m : Int), .int .i64 vt, .int .i64 vn, .string vs: they go into the result's box q (block fact HZ7.out) in the world w7
          have g0 := block_cell (HB8.out) 0
          have g1 := block_cell (HB8.out) 1
          have g2 := block_cell (HB8.out) 2
          have g3 := block_cell (HB8.out) 3
          have g4 := block_cell (HB8.out) 4
          have f0 := block_free (HZ7.out) 0
          have f1 := block_free (HZ7.out) 1
          have f2 := block_free (HZ7.out) 2
          have f3 := block_free (HZ7.out) 3
          have f4 := block_free (HZ7.out) 4
          have e0 := block_cell (HZ7.out) 0
          have e1 := block_cell (HZ7.out) 1
          have e2 := block_cell (HZ7.out) 2
          have e3 := block_cell (HZ7.out) 3
          have e4 := block_cell (HZ7.out) 4
          have HZ6 := Lib.hid (setCell_block (setCell_block (setCell_block (setCell_block (setCell_block (HZ7.out) 0 (.string nm)) 1 (.int .i64 (m : Int))) 2 (.int .i64 vt)) 3 (.int .i64 vn)) 4 (.string vs))
          have hqr : r ≤ q := by have := HRL.out; have := HQ.out; omega
          have hqw : w.heap.size ≤ q := Nat.le_of_eq HQ.out
          have HK6 := Lib.hid (((((HK7.out.setNew hqw hqr (i := 0) (.string nm)).setNew hqw hqr (i := 1) (.int .i64 (m : Int))).setNew hqw hqr (i := 2) (.int .i64 vt)).setNew hqw hqr (i := 3) (.int .i64 vn)).setNew hqw hqr (i := 4) (.string vs))
          have HA6 : Hid (RdAt (((((w7.setCell ⟨q, 0, none⟩ (.string nm)).setCell ⟨q, 1, none⟩ (.int .i64 (m : Int))).setCell ⟨q, 2, none⟩ (.int .i64 vt)).setCell ⟨q, 3, none⟩ (.int .i64 vn)).setCell ⟨q, 4, none⟩ (.string vs)) r s r2) := by
            obtain ⟨p', g1, g2, g3⟩ := HA7.out
            exact ⟨p', g1, g2, setCell_oth (setCell_oth (setCell_oth (setCell_oth (setCell_oth g3 HNE.out.symm 0 _) HNE.out.symm 1 _) HNE.out.symm 2 _) HNE.out.symm 3 _) HNE.out.symm 4 _⟩
          clear hqr hqw
          go_wp2_with fail
          have p0 := block_cell HZ6.out 0
          have p1 := block_cell HZ6.out 1
          have p2 := block_cell HZ6.out 2
          have p3 := block_cell HZ6.out 3
          have p4 := block_cell HZ6.out 4
          rw [HPE.out]
          exact bodyPost_ret (v := tstV ⟨nm, (m : Int), ⟨vt, vn, vs⟩⟩) (by simp [results, Tryd.results26, go_sem, p0, p1, p2, p3, p4]; rfl) rfl ⟨HK6.out, _, rfl, rfl, HA6.out⟩
    · have hmiss : pNext signsL.data.toList l1 = (0, l1) := by
        cases l1 with
        | nil => rfl
        | cons x r' => exact pNext_miss (fun h => hsg ⟨x, r', rfl, (signs_in x).1 h⟩)
      rw [hmiss] at hx
      have HPS : Hid (pTest l = .ok (⟨nm, 4, zVal⟩, l1)) := by
        unfold Hid
        rw [HP.out]
        cases l1 with
        | nil => rfl
        | cons x r' =>
          show (if x = 61 then _ else if x = 33 then _ else if x = 60 then _ else _) = _
          rw [if_neg (fun e => hsg ⟨x, r', rfl, .inl e⟩), if_neg (fun e => hsg ⟨x, r', rfl, .inr (.inl e)⟩), if_neg (fun e => hsg ⟨x, r', rfl, .inr (.inr e)⟩)]
      clear hmiss hsg
      go_wp2_with fail
      refine hx.mono ?_
      clear hx
      rintro e w3 ⟨rfl, hk3, ha3⟩
      have HK3 := Lib.hid (HK2.out.trans hk3)
      have HA3 := Lib.hid ha3
      have HB3 := Lib.hid (hk3.block HBX.out HQB.out)
      have HZ3 := Lib.hid (hk3.block HZ1.out HNE.out)
      clear hk3 ha3
      -- the box qb (facts: its block HB3.out) holds the cells .string nm, .int .i64 4, .int .i64 0, .int .i64 0, .string ⟨#[]⟩: they go into the result's box q (block fact HZ3.out) in the world w3
      have g0 := block_cell (HB3.out) 0
      have g1 := block_cell (HB3.out) 1
      have g2 := block_cell (HB3.out) 2
      have g3 := block_cell (HB3.out) 3
      have g4 := block_cell (HB3.out) 4
      have f0 := block_free (HZ3.out) 0
      have f1 := block_free (HZ3.out) 1
      have f2 := block_free (HZ3.out) 2
      have f3 := block_free (HZ3.out) 3
      have f4 := block_free (HZ3.out) 4
      have e0 := block_cell (HZ3.out) 0
      have e1 := block_cell (HZ3.out) 1
      have e2 := block_cell (HZ3.out) 2
      have e3 := block_cell (HZ3.out) 3
      have e4 := block_cell (HZ3.out) 4
      have HZ6 := Lib.hid (setCell_block (setCell_block (setCell_block (setCell_block (setCell_block (HZ3.out) 0 (.string nm)) 1 (.int .i64 4)) 2 (.int .i64 0)) 3 (.int .i64 0)) 4 (.string ⟨#[]⟩))
      have hqr : r ≤ q := by have := HRL.out; have := HQ.out; omega
      have hqw : w.heap.size ≤ q := Nat.le_of_eq HQ.out
      have HK6 := Lib.hid (((((HK3.out.setNew hqw hqr (i := 0) (.string nm)).setNew hqw hqr (i := 1) (.int .i64 4)).setNew hqw hqr (i := 2) (.int .i64 0)).setNew hqw hqr (i := 3) (.int .i64 0)).setNew hqw hqr (i := 4) (.string ⟨#[]⟩))
      have HA6 : Hid (RdAt (((((w3.setCell ⟨q, 0, none⟩ (.string nm)).setCell ⟨q, 1, none⟩ (.int .i64 4)).setCell ⟨q, 2, none⟩ (.int .i64 0)).setCell ⟨q, 3, none⟩ (.int .i64 0)).setCell ⟨q, 4, none⟩ (.string ⟨#[]⟩)) r s l1) := by
        obtain ⟨p', g1, g2, g3⟩ := HA3.out
        exact ⟨p', g1, g2, setCell_oth (setCell_oth (setCell_oth (setCell_oth (setCell_oth g3 HNE.out.symm 0 _) HNE.out.symm 1 _) HNE.out.symm 2 _) HNE.out.symm 3 _) HNE.out.symm 4 _⟩
      clear hqr hqw
      go_wp2_with fail
      have p0 := block_cell HZ6.out 0
      have p1 := block_cell HZ6.out 1
      have p2 := block_cell HZ6.out 2
      have p3 := block_cell HZ6.out 3
      have p4 := block_cell HZ6.out 4
      rw [HPS.out]
      exact bodyPost_ret (v := tstV ⟨nm, 4, zVal⟩) (by simp [results, Tryd.results26, go_sem, p0, p1, p2, p3, p4]; rfl) rfl ⟨HK6.out, _, rfl, rfl, HA6.out⟩
end Go.Proofs.YtakidgndipnciaaDoor
