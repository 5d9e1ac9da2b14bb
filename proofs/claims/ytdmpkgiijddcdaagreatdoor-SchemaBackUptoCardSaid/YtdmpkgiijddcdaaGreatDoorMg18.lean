/- Parts: FldA, RkA. -/
import Derived.Test.YtdmpkgiijddcdaaGreatDoorMg17
import Derived.Test.YtdmpkgiijddcdaaGreatDoorMg09
import Derived.BigRegion
import Derived.Deep.RegionLaw
import Derived.Test.YtdmpkgiijddcdaaGreatDoorMg05
/- Contract: schema.readField: a field's word. Conditions: what the library's texts lean on (TxP); the variable schema.types is laid (four names). UNDER WAY. -/
namespace Go.Proofs.YtdmpkgiijddcdaaGreatDoor
open Go Go.RowKit

def FldR (l : List UInt8) (w : World) (e : Ending) (w' : World) : Prop := ∃ (nm : ByteArray) (ty : Int) (m k : Bool),
  e = .returned (.tuple #[.agg #[.string nm, .int .i64 ty, .bool m, .bool k], .bool (readFldL l).isSome]) ∧ (∀ f, readFldL l = some f → nm = f.name ∧ ty = f.ty ∧ m = f.must ∧ k = f.key ∧ f.ok) ∧ Below w.heap.size w w'
theorem res4d {w w1 : World} {T : TypeId} {c0 c1 c2 c3 : Value} (a b c d : Value) (hB : Below w.heap.size w w1) (h : w1.heap[w.heap.size]? = some (.cells #[c0, c1, c2, c3] T (0, 0))) :
    Below w.heap.size w ((((w1.setCell ⟨w.heap.size, 0, none⟩ a).setCell ⟨w.heap.size, 1, none⟩ b).setCell ⟨w.heap.size, 2, none⟩ c).setCell ⟨w.heap.size, 3, none⟩ d).drew ∧
    ((((w1.setCell ⟨w.heap.size, 0, none⟩ a).setCell ⟨w.heap.size, 1, none⟩ b).setCell ⟨w.heap.size, 2, none⟩ c).setCell ⟨w.heap.size, 3, none⟩ d).drew.heap[w.heap.size]? = some (.cells #[a, b, c, d] T (0, 0)) :=
  ⟨((((hB.setCell (p := ⟨_, 0, none⟩) (Nat.le_refl _) _).setCell (p := ⟨_, 1, none⟩) (Nat.le_refl _) _).setCell (p := ⟨_, 2, none⟩) (Nat.le_refl _) _).setCell (p := ⟨_, 3, none⟩) (Nat.le_refl _) _).drew,
    setCell_block (setCell_block (setCell_block (setCell_block h 0 a) 1 b) 2 c) 3 d⟩
theorem res4 {w w1 : World} {T : TypeId} {c0 c1 c2 c3 : Value} (a b c d : Value) (hB : Below w.heap.size w w1) (h : w1.heap[w.heap.size]? = some (.cells #[c0, c1, c2, c3] T (0, 0))) :
    Below w.heap.size w ((((w1.setCell ⟨w.heap.size, 0, none⟩ a).setCell ⟨w.heap.size, 1, none⟩ b).setCell ⟨w.heap.size, 2, none⟩ c).setCell ⟨w.heap.size, 3, none⟩ d) ∧
    ((((w1.setCell ⟨w.heap.size, 0, none⟩ a).setCell ⟨w.heap.size, 1, none⟩ b).setCell ⟨w.heap.size, 2, none⟩ c).setCell ⟨w.heap.size, 3, none⟩ d).heap[w.heap.size]? = some (.cells #[a, b, c, d] T (0, 0)) :=
  ⟨(((hB.setCell (p := ⟨_, 0, none⟩) (Nat.le_refl _) _).setCell (p := ⟨_, 1, none⟩) (Nat.le_refl _) _).setCell (p := ⟨_, 2, none⟩) (Nat.le_refl _) _).setCell (p := ⟨_, 3, none⟩) (Nat.le_refl _) _,
    setCell_block (setCell_block (setCell_block (setCell_block h 0 a) 1 b) 2 c) 3 d⟩
theorem typN_i64 (l : List UInt8) : I64 (typN l) := by
  have h : -1 ≤ typN l ∧ typN l ≤ 3 := by unfold typN; split <;> (try split) <;> (try split) <;> (try split) <;> omega
  unfold I64; omega
/-- A guarded call at a step of a region that draws, whatever it answers. -/
theorem step_callxg {P : Program} {ops : Array Oper} {o : Oper} {a : Act} {w : World} {K : Act → World → Prop} {Q : Exit → Act → World → Prop} {E : Prop} (hw : Region.wanted o (yielded ops a.tmps) = true) (g : Nat) (vs : Array Value)
    (hr : (execOp a.eval o).run P w = .ok (.enter g vs) w) {R : Ending → World → Prop}
    (h : Calls P g vs w R) (hk : ∀ e w', R e w' → ∃ u, e = .returned u ∧ K (a.put o.dst u) w') :
    if Region.wanted o (yielded ops a.tmps) = true then Oper.wp P o a w K Q else E := by
  rw [if_pos hw]
  unfold Oper.wp
  rw [hr, Oper.upon_enter]
  exact h.mono fun e w' hR => by
    obtain ⟨u, rfl, hK⟩ := hk e w' hR
    exact hK
set_option maxRecDepth 100000 in
set_option maxHeartbeats 8000000 in
theorem rfld_any (s : ByteArray) (hs : Sm s) (w : World) (hT : TxP w) (hY : Typ4 w) : Calls Tryz.prog 110 #[.string s] w (FldR s.data.toList w) := by
  have hb0 : Below w.heap.size w (w.alloc (.cells #[.string ⟨#[]⟩, .int .i64 0, .bool false, .bool false] 31)) := (Below.refl _ _).alloc (Nat.le_refl _) _
  have hbk := heap_alloc_new w (.cells #[.string ⟨#[]⟩, .int .i64 0, .bool false, .bool false] 31)
  have hle := len_size s
  unfold Sm at hs
  have hx := tx_cut s 58 _ (hT.below hb0) (by omega)
  have HY := Lib.hid hY
  obtain ⟨hl1, hl2⟩ := cut_lens 58 s.data.toList
  have HD : Hid (∀ a r f, (Lib.cut s.data.toList [58]).1 = a → (Lib.cut s.data.toList [58]).2.1 = r → (Lib.cut s.data.toList [58]).2.2 = f → readFldL s.data.toList = if f = true ∧ wordB a = true ∧ 0 < typN (signB r).2.2 then some ⟨bs a, typN (signB r).2.2, (signB r).1, (signB r).2.1⟩ else none) := fun a r f h1 h2 h3 => by subst h1; subst h2; subst h3; rfl
  have HD2 := Lib.hid (HD.out _ _ _ rfl rfl rfl)
  generalize (Lib.cut s.data.toList [58]).1 = a at *
  generalize (Lib.cut s.data.toList [58]).2.1 = r at *
  generalize (Lib.cut s.data.toList [58]).2.2 = f at *
  clear hT hY HD
  go_enter Tryz.func110, Tryz.ntmps110
  go_upto_region 1 with fail
  generalize w.alloc (.cells #[.string ⟨#[]⟩, .int .i64 0, .bool false, .bool false] 31) = W0 at *
  go_wp2_with fail
  refine hx.mono ?_
  clear hx
  rintro e w1 ⟨rfl, hb1⟩
  have hB1 := hb0.trans (hb1.mono hb0.size)
  have hbk1 := (hb1.block _ (Array.getElem?_eq_some_iff.1 hbk).1).trans hbk
  have ha2 := (Below.refl w1.heap.size w1).alloc (Nat.le_refl _) (.cells #[.string (bs a), .int .i64 0, .bool false, .bool false] 31)
  have hbx := heap_alloc_new w1 (.cells #[.string (bs a), .int .i64 0, .bool false, .bool false] 31)
  have hbk2 := (ha2.block _ (Array.getElem?_eq_some_iff.1 hbk1).1).trans hbk1
  have hB2 := hB1.trans (ha2.mono hB1.size)
  have hqw : w.heap.size ≤ w1.heap.size := Nat.le_trans hb0.size hb1.size
  have hne : w.heap.size ≠ w1.heap.size := by have := (Array.getElem?_eq_some_iff.1 hbk1).1; omega
  clear hb0 hb1 hbk hbk1 hB1 ha2
  go_upto_region 3 with fail
  generalize w1.alloc (.cells #[.string (bs a), .int .i64 0, .bool false, .bool false] 31) = W2 at *
  generalize hq1 : w1.heap.size = q at *
  clear hq1
  have hx := tx_cutSuffix (bs r) 33 W2 (by rw [bs_size]; omega)
  rw [bs_list] at hx
  have y0 := block_cell hbx 0
  have y2 := block_cell hbx 2
  have y3 := block_cell hbx 3
  have g2 := block_free hbx 2
  have g3 := block_free hbx 3
  have HSG : Hid (signB r = if Lib.hasSuffix r [33] = true then (true, false, Lib.trimSuffix r [33]) else if Lib.hasSuffix r [42] = true then (true, true, Lib.trimSuffix r [42]) else (false, false, r)) := rfl
  have hx2 := tx_cutSuffix (bs r) 42 W2 (by rw [bs_size]; omega)
  rw [bs_list] at hx2
  generalize Lib.hasSuffix r [33] = s33 at *
  generalize Lib.hasSuffix r [42] = s42 at *
  generalize Lib.trimSuffix r [33] = T33 at *
  generalize Lib.trimSuffix r [42] = T42 at *
  go_wp2_with fail
  refine hx.mono ?_
  clear hx
  rintro e w9 ⟨rfl, hw⟩
  have hw := hw.symm
  subst hw
  go_upto_if 25 with fail
  go_cut [5] (fun v wx => ∃ (m k : Bool) (R : List UInt8), v = .string (bs R) ∧ Hid (signB r = (m, k, R)) ∧ Hid (wx.heap[q]? = some (.cells #[.string (bs a), .int .i64 0, .bool m, .bool k] 31 (0, 0))) ∧ Hid (wx.heap[w.heap.size]? = some (.cells #[.string ⟨#[]⟩, .int .i64 0, .bool false, .bool false] 31 (0, 0))) ∧ Below w.heap.size w wx)
  case first =>
    have HBX := Lib.hid hbx
    have HBK := Lib.hid hbk2
    have HNE := Lib.hid hne
    have HQW := Lib.hid hqw
    clear hbx hbk2
    cases s33 with
    | true =>
      have HS : Hid (signB r = (true, false, T33)) := HSG.out
      clear HSG hx2
      go_wp2_with fail
      go_meet
      exact ⟨true, false, T33, rfl, HS, setCell_block HBX.out 2 (.bool true), setCell_other HBK.out HNE.out 2 (.bool true), hB2.setCell (p := ⟨q, 2, none⟩) HQW.out (.bool true)⟩
    | false =>
      cases s42 with
      | true =>
        have HS : Hid (signB r = (true, true, T42)) := HSG.out
        clear HSG
        go_wp2_with fail
        refine hx2.mono ?_
        clear hx2
        rintro e w8 ⟨rfl, hw⟩
        have hw := hw.symm
        subst hw
        go_wp2_with fail
        go_meet
        exact ⟨true, true, T42, rfl, HS, setCell_block (setCell_block HBX.out 2 (.bool true)) 3 (.bool true), setCell_other (setCell_other HBK.out HNE.out 2 (.bool true)) HNE.out 3 (.bool true), (hB2.setCell (p := ⟨q, 2, none⟩) HQW.out (.bool true)).setCell (p := ⟨q, 3, none⟩) HQW.out (.bool true)⟩
      | false =>
        have HS : Hid (signB r = (false, false, r)) := HSG.out
        clear HSG
        go_wp2_with fail
        refine hx2.mono ?_
        clear hx2
        rintro e w8 ⟨rfl, hw⟩
        have hw := hw.symm
        subst hw
        go_wp2_with fail
        go_meet
        exact ⟨false, false, r, rfl, HS, HBX, HBK, hB2⟩
  case rest =>
  obtain ⟨W5, hw5⟩ : ∃ x : World, x = wc := ⟨_, rfl⟩
  subst hw5
  obtain ⟨m, k, R, rfl, HS, HBX, HBK, hB5⟩ := hcut
  have HD5 : Hid (readFldL s.data.toList = if f = true ∧ wordB a = true ∧ 0 < typN R then some ⟨bs a, typN R, m, k⟩ else none) := by
    have h := HD2.out; rw [HS.out] at h; exact h
  have hbx5 := HBX.out
  have hbk5 := HBK.out
  clear HSG hx2 HS HBX HBK HD2 y0 y2 y3 g2 g3 hbx hbk2 hB2
  -- behind the sign: the world is W5; hbx5, hbk5, hB5; the rest is bs R; HD5
  have hx := ti_any (bs R) W5 (HY.out.below hB5)
  rw [bs_list] at hx
  have y1 := block_cell hbx5 1
  have g1 := block_free hbx5 1
  go_wp2_with fail
  refine hx.mono ?_
  clear hx
  rintro e w9 ⟨rfl, hw⟩
  have hw := hw.symm
  subst hw
  have hbx6 : (W5.setCell ⟨q, 1, none⟩ (.int .i64 (typN R))).heap[q]? = some (.cells #[.string (bs a), .int .i64 (typN R), .bool m, .bool k] 31 (0, 0)) := setCell_block hbx5 1 (.int .i64 (typN R))
  have hbk6 := setCell_other hbk5 hne 1 (.int .i64 (typN R))
  have hB6 := hB5.setCell (p := ⟨q, 1, none⟩) hqw (.int .i64 (typN R))
  clear hbx5 hbk5 hB5
  go_upto_region 10 with fail
  generalize W5.setCell ⟨q, 1, none⟩ (.int .i64 (typN R)) = W6 at *
  clear y1 g1
  have z0 := block_cell hbx6 0
  have z1 := block_cell hbx6 1
  have z2 := block_cell hbx6 2
  have z3 := block_cell hbx6 3
  have r0 := block_cell hbk6 0
  have r1 := block_cell hbk6 1
  have r2 := block_cell hbk6 2
  have r3 := block_cell hbk6 3
  have f0 := block_free hbk6 0
  have f1 := block_free hbk6 1
  have f2 := block_free hbk6 2
  have f3 := block_free hbk6 3
  cases f with
  | false =>
    have HN : Hid (readFldL s.data.toList = none) := by unfold Hid; rw [HD5.out, if_neg (fun h => by cases h.1)]
    go_region
    obtain ⟨k1, k2⟩ := res4d (.string (bs a)) (.int .i64 (typN R)) (.bool m) (.bool k) hB6 hbk6
    have p0 := block_cell k2 0
    have p1 := block_cell k2 1
    have p2 := block_cell k2 2
    have p3 := block_cell k2 3
    clear z0 z1 z2 z3 r0 r1 r2 r3 f0 f1 f2 f3 hbx6 hbk6 hB6 HD5 k2
    go_wp2_with fail
    exact bodyPost_ret (v := .tuple #[.agg #[.string (bs a), .int .i64 (typN R), .bool m, .bool k], .bool false]) (by simp [results, Tryz.results110, go_sem, p0, p1, p2, p3]) rfl ⟨_, _, _, _, by rw [HN.out]; rfl, (fun f hf => by rw [HN.out] at hf; cases hf), k1⟩
  | true =>
    have hx := word_any (bs a) W6.drew (by unfold Sm; rw [bs_size]; omega)
    rw [bs_list] at hx
    cases hwd : wordB a with
    | true =>
      rw [hwd] at hx
      have HN : Hid (readFldL s.data.toList = if 0 < typN R then some ⟨bs a, typN R, m, k⟩ else none) := by unfold Hid; rw [HD5.out]; simp only [hwd, true_and]
      have HWN : Hid (a.length ≤ 1048576) := by unfold Hid; omega
      have hnq : q ≠ w.heap.size := fun h => hne h.symm
      clear HD5 hwd
      by_cases hty : 0 < typN R
      · have hgt : decide (0 < typN R) = true := decide_eq_true hty
        have HNN : Hid (readFldL s.data.toList = some ⟨bs a, typN R, m, k⟩) := by unfold Hid; rw [HN.out, if_pos hty]
        have HTY : Hid (I64 (typN R)) := typN_i64 _
        generalize hty9 : typN R = tn at *
        clear HN hty9
        go_region_held3 (fun w' => w'.cell? ⟨q, 0, none⟩ = some (.string (bs a)) ∧ w'.cell? ⟨q, 1, none⟩ = some (.int .i64 tn) ∧ w'.cell? ⟨q, 2, none⟩ = some (.bool m) ∧ w'.cell? ⟨q, 3, none⟩ = some (.bool k))
          (first
            | exact hkeep
            | go_keep)
          (first | (go_at_call 107; refine hx.mono ?_; clear hx; rintro e w10 ⟨rfl, hb10⟩; have hkeep := And.intro (cell_below hb10 z0) (And.intro (cell_below hb10 z1) (And.intro (cell_below hb10 z2) (cell_below hb10 z3))); have hbk7 := (hb10.block _ (Array.getElem?_eq_some_iff.1 hbk6).1).trans hbk6; have r0 := block_cell hbk7 0; have r1 := block_cell hbk7 1; have r2 := block_cell hbk7 2; have r3 := block_cell hbk7 3; have f0 := block_free hbk7 0; have f1 := block_free hbk7 1; have f2 := block_free hbk7 2; have f3 := block_free hbk7 3))
        all_goals
          obtain ⟨k1, k2⟩ := res4 (.string (bs a)) (.int .i64 tn) (.bool m) (.bool k) (hB6.drew.trans (hb10.mono hB6.size)) hbk7
          have p0 := block_cell k2 0
          have p1 := block_cell k2 1
          have p2 := block_cell k2 2
          have p3 := block_cell k2 3
          clear z0 z1 z2 z3 r0 r1 r2 r3 f0 f1 f2 f3 hbx6 hbk6 hB6 k2 hkeep hbk7
          go_wp2_with fail
          exact bodyPost_ret (v := .tuple #[.agg #[.string (bs a), .int .i64 tn, .bool m, .bool k], .bool true]) (by simp [results, Tryz.results110, go_sem, p0, p1, p2, p3]) rfl ⟨_, _, _, _, by rw [HNN.out]; rfl, (fun f hf => by rw [HNN.out] at hf; injection hf with hf; subst hf; exact ⟨rfl, rfl, rfl, rfl, by unfold Sm; rw [bs_size]; exact HWN.out, HTY.out⟩), k1⟩
      · have hgt : decide (0 < typN R) = false := decide_eq_false hty
        have HNN : Hid (readFldL s.data.toList = none) := by unfold Hid; rw [HN.out, if_neg hty]
        generalize hty9 : typN R = tn at *
        clear HN hty9
        go_region_held3 (fun w' => w'.cell? ⟨q, 0, none⟩ = some (.string (bs a)) ∧ w'.cell? ⟨q, 1, none⟩ = some (.int .i64 tn) ∧ w'.cell? ⟨q, 2, none⟩ = some (.bool m) ∧ w'.cell? ⟨q, 3, none⟩ = some (.bool k))
          (first
            | exact hkeep
            | go_keep)
          (first | (go_at_call 107; refine hx.mono ?_; clear hx; rintro e w10 ⟨rfl, hb10⟩; have hkeep := And.intro (cell_below hb10 z0) (And.intro (cell_below hb10 z1) (And.intro (cell_below hb10 z2) (cell_below hb10 z3))); have hbk7 := (hb10.block _ (Array.getElem?_eq_some_iff.1 hbk6).1).trans hbk6; have r0 := block_cell hbk7 0; have r1 := block_cell hbk7 1; have r2 := block_cell hbk7 2; have r3 := block_cell hbk7 3; have f0 := block_free hbk7 0; have f1 := block_free hbk7 1; have f2 := block_free hbk7 2; have f3 := block_free hbk7 3))
        all_goals
          obtain ⟨k1, k2⟩ := res4 (.string (bs a)) (.int .i64 tn) (.bool m) (.bool k) (hB6.drew.trans (hb10.mono hB6.size)) hbk7
          have p0 := block_cell k2 0
          have p1 := block_cell k2 1
          have p2 := block_cell k2 2
          have p3 := block_cell k2 3
          clear z0 z1 z2 z3 r0 r1 r2 r3 f0 f1 f2 f3 hbx6 hbk6 hB6 k2 hkeep hbk7
          go_wp2_with fail
          exact bodyPost_ret (v := .tuple #[.agg #[.string (bs a), .int .i64 tn, .bool m, .bool k], .bool false]) (by simp [results, Tryz.results110, go_sem, p0, p1, p2, p3]) rfl ⟨_, _, _, _, by rw [HNN.out]; rfl, (fun f hf => by rw [HNN.out] at hf; cases hf), k1⟩
    | false =>
      rw [hwd] at hx
      have HNN : Hid (readFldL s.data.toList = none) := by unfold Hid; rw [HD5.out, if_neg (fun h => by rw [hwd] at h; cases h.2.1)]
      have hnq : q ≠ w.heap.size := fun h => hne h.symm
      generalize hty9 : typN R = tn at *
      clear HD5 hwd hty9
      first | (go_region_law (first | (refine step_callxg (by simp [Region.wanted, yielded, go_sem]) 107 #[.string (bs a)] (by kernel_rfl) hx ?_; clear hx; rintro e w10 ⟨rfl, hb10⟩; refine ⟨_, rfl, ?_⟩; have z0 := cell_below hb10 z0; have z1 := cell_below hb10 z1; have z2 := cell_below hb10 z2; have z3 := cell_below hb10 z3; have hbk7 := (hb10.block _ (Array.getElem?_eq_some_iff.1 hbk6).1).trans hbk6; have r0 := block_cell hbk7 0; have r1 := block_cell hbk7 1; have r2 := block_cell hbk7 2; have r3 := block_cell hbk7 3; have f0 := block_free hbk7 0; have f1 := block_free hbk7 1; have f2 := block_free hbk7 2; have f3 := block_free hbk7 3))) | fail
      all_goals
        obtain ⟨k1, k2⟩ := res4 (.string (bs a)) (.int .i64 tn) (.bool m) (.bool k) (hB6.drew.trans (hb10.mono hB6.size)) hbk7
        have p0 := block_cell k2 0
        have p1 := block_cell k2 1
        have p2 := block_cell k2 2
        have p3 := block_cell k2 3
        clear z0 z1 z2 z3 r0 r1 r2 r3 f0 f1 f2 f3 hbx6 hbk6 hB6 k2 hbk7
        go_wp2_with fail
        exact bodyPost_ret (v := .tuple #[.agg #[.string (bs a), .int .i64 tn, .bool m, .bool k], .bool false]) (by simp [results, Tryz.results110, go_sem, p0, p1, p2, p3]) rfl ⟨_, _, _, _, by rw [HNN.out]; rfl, (fun f hf => by rw [HNN.out] at hf; cases hf), k1⟩


def strV (_ : World) (d : ByteArray) (u : Value) : Prop := u = .string d ∧ Sm d
set_option maxHeartbeats 400000 in
theorem idx_strs (g : Nat) (caps : Array Value) (eg : ∀ args w, (callFunc g args).run Tryz.prog w = .ok (.enter g args) w) (p : ByteArray → Bool) (l : List (ByteArray)) (v : Value) (w : World) (hv : Sl strL w v l)
    (hp : PredB Tryz.prog g caps strV p w) :
    Calls Tryz.prog 148 #[v, .func (.func g) #[] caps] w fun e w' => e = .returned (.int .i64 (idxI p l)) ∧ Below w.heap.size w w' := by
  obtain ⟨A, c, rfl, hlc, hcm⟩ := hv.form
  unfold maxLen at hcm
  go_enter Tryz.func148, Tryz.ntmps148
  go_wp2_with fail
  go_loopw [8] (fun i wr => ∃ k : Nat, k ≤ l.length ∧ i = .int .i64 k ∧ Below w.heap.size w wr ∧ Hid (∀ j x, j < k → l[j]? = some x → p x = false)) (fun i _ => l.length - (intOf i).toNat)
  case atStart => exact ⟨0, Nat.zero_le _, rfl, Below.refl _ _, fun j x hj => absurd hj (Nat.not_lt_zero _)⟩
  case round =>
    obtain ⟨k, hk, rfl, hb, HA⟩ := hrel
    by_cases hlt : k < l.length
    · obtain ⟨d, hd⟩ : ∃ d, l[k]? = some d := ⟨_, List.getElem?_eq_getElem hlt⟩
      obtain ⟨b, o, rfl, hsm, x0⟩ := str_at (hv.below hb) hd
      have hcall := hp d _ wr hb ⟨rfl, hsm⟩
      have HD : Hid (l[k]? = some d) := hd
      clear hd hp hv
      cases hq : p d with
      | true =>
        rw [hq] at hcall
        have HQ : Hid (p d = true) := hq
        clear hq
        go_wp2_with (go_at_fn g; refine hcall.mono ?_; rintro e w' ⟨rfl, hb2⟩)
        go_ret
        exact ⟨ret_int (idxI_hit HA.out HD.out HQ.out).symm, hb.trans (hb2.mono hb.size)⟩
      | false =>
        rw [hq] at hcall
        have HQ : Hid (p d = false) := hq
        clear hq
        go_wp2_with (go_at_fn g; refine hcall.mono ?_; rintro e w' ⟨rfl, hb2⟩)
        go_roundw
        case rel => exact ⟨k + 1, by omega, by go_num, hb.trans (hb2.mono hb.size), miss_step HA.out HD.out HQ.out⟩
        case measure => simp [intOf]; omega
    · have hkl : k = l.length := by omega
      subst hkl
      clear hp hv
      go_wp2_with fail
      go_ret
      exact ⟨ret_int (idxI_miss HA.out).symm, hb⟩
theorem cont_strs (g : Nat) (caps : Array Value) (eg : ∀ args w, (callFunc g args).run Tryz.prog w = .ok (.enter g args) w) (p : ByteArray → Bool) (l : List (ByteArray)) (v : Value) (w : World) (hv : Sl strL w v l)
    (hp : PredB Tryz.prog g caps strV p w) :
    Calls Tryz.prog 108 #[v, .func (.func g) #[] caps] w fun e w' => e = .returned (.bool (l.any p)) ∧ Below w.heap.size w w' := by
  have h1 := idx_strs g caps eg p l v w hv hp
  have h2 := idxI_any p l
  have H2 := Lib.hid h2
  clear h2 hv hp eg
  go_enter Tryz.func108, Tryz.ntmps108
  go_wp2_with (go_at_call 148; refine h1.mono ?_; rintro e w' ⟨rfl, hb⟩)
  go_ret
  exact ⟨ret_bool H2.out, hb⟩
theorem noword_any (s : ByteArray) (w : World) (hs : Sm s) :
    Calls Tryz.prog 109 #[.string s] w fun e w' => e = .returned (.bool (!wordB s.data.toList)) ∧ Below w.heap.size w w' := by
  have hx := word_any s w hs
  generalize wordB s.data.toList = q at *
  go_enter Tryz.func109, Tryz.ntmps109
  go_wp2_with fail
  refine hx.mono ?_
  rintro e w' ⟨rfl, hb⟩
  go_wp2_with fail
  go_ret
  exact ⟨rfl, hb⟩
theorem nowords_any (l : List ByteArray) (v : Value) (w : World) (hv : Sl strL w v l) :
    Calls Tryz.prog 108 #[v, .func (.func 109) #[] #[]] w fun e w' => e = .returned (.bool (l.any fun s => !wordB s.data.toList)) ∧ Below w.heap.size w w' :=
  cont_strs 109 #[] (enters_of Tryz.func109 (by kernel_rfl) rfl) (fun s => !wordB s.data.toList) l v w hv (fun x u wx _ ⟨hu, hx⟩ => by
    subst hu
    exact noword_any x wx hx)
end Go.Proofs.YtdmpkgiijddcdaaGreatDoor
