/- Parts: BndA. -/
import Derived.Test.YtdmpkgiijddcdaaGreatDoorMg18
/- Contract: schema.readBond: a bond of words. Conditions: what the library's texts lean on (TxOk). -/
namespace Go.Proofs.YtdmpkgiijddcdaaGreatDoor
open Go Go.RowKit

/-- What readBond answers. -/
def BndR (l : List (List UInt8)) (w : World) (e : Ending) (w' : World) : Prop := ∃ (a b c : ByteArray) (x y : Int),
  e = .returned (.tuple #[.agg #[.string a, .string b, .string c, .int .i64 x, .int .i64 y], .bool (readBndL l).isSome]) ∧ (∀ d, readBndL l = some d → a = d.name ∧ b = d.src ∧ c = d.dst ∧ x = d.mn ∧ y = d.mx ∧ d.ok) ∧ Below w.heap.size w w'
theorem BndR.bad {l : List (List UInt8)} {w w' : World} {e : Ending} {a b c : ByteArray} {x y : Int} (h : readBndL l = none) (he : e = .returned (.tuple #[.agg #[.string a, .string b, .string c, .int .i64 x, .int .i64 y], .bool false])) (hb : Below w.heap.size w w') : BndR l w e w' :=
  ⟨a, b, c, x, y, by rw [h]; exact he, (fun d hn => by rw [h] at hn; cases hn), hb⟩
theorem res5 {w w1 : World} {T : TypeId} {c0 c1 c2 c3 c4 : Value} (a b c d e : Value) (hB : Below w.heap.size w w1) (h : w1.heap[w.heap.size]? = some (.cells #[c0, c1, c2, c3, c4] T (0, 0))) :
    Below w.heap.size w (((((w1.setCell ⟨w.heap.size, 0, none⟩ a).setCell ⟨w.heap.size, 1, none⟩ b).setCell ⟨w.heap.size, 2, none⟩ c).setCell ⟨w.heap.size, 3, none⟩ d).setCell ⟨w.heap.size, 4, none⟩ e) ∧
    (((((w1.setCell ⟨w.heap.size, 0, none⟩ a).setCell ⟨w.heap.size, 1, none⟩ b).setCell ⟨w.heap.size, 2, none⟩ c).setCell ⟨w.heap.size, 3, none⟩ d).setCell ⟨w.heap.size, 4, none⟩ e).heap[w.heap.size]? = some (.cells #[a, b, c, d, e] T (0, 0)) :=
  ⟨((((hB.setCell (p := ⟨_, 0, none⟩) (Nat.le_refl _) _).setCell (p := ⟨_, 1, none⟩) (Nat.le_refl _) _).setCell (p := ⟨_, 2, none⟩) (Nat.le_refl _) _).setCell (p := ⟨_, 3, none⟩) (Nat.le_refl _) _).setCell (p := ⟨_, 4, none⟩) (Nat.le_refl _) _,
    setCell_block (setCell_block (setCell_block (setCell_block (setCell_block h 0 a) 1 b) 2 c) 3 d) 4 e⟩
def bndOf (a b c e : List UInt8) (nd ne : Option Nat) : Option Bnd := match nd with
  | none => none
  | some mn => if e = anyW then some ⟨bs a, bs b, bs c, mn, -1⟩ else match ne with
    | none => none
    | some mx => some ⟨bs a, bs b, bs c, mn, mx⟩
theorem readBnd_no {l : List (List UInt8)} (h : l.length ≠ 6) : readBndL l = none := by
  unfold readBndL
  split
  · simp at h
  · rfl
theorem readBnd_six (x a b c d e : List UInt8) : readBndL [x, a, b, c, d, e] = if wordB a = true ∧ wordB b = true ∧ wordB c = true then bndOf a b c e (numL d 2) (numL e 2) else none := rfl
theorem six_parts {P : List (List UInt8)} (h : P.length = 6) : ∃ a b c d e f, P = [a, b, c, d, e, f] := by
  match P, h with
  | [a, b, c, d, e, f], _ => exact ⟨a, b, c, d, e, f, rfl⟩
set_option maxRecDepth 100000 in
set_option maxHeartbeats 8000000 in
theorem rbnd_any (l : List (List UInt8)) (g n : Nat) (w : World) (hl : l.length = n) (hc : ∀ i x, l[i]? = some x → w.cell? ⟨g, i, none⟩ = some (.string (bs x)) ∧ x.length ≤ 1048576) (hn : n ≤ 1048577) (hT : TxOk w) :
    Calls Tryz.prog 56 #[.slice (some ⟨g, 0, none⟩) n n] w (BndR l w) := by
  have hb0 : Below w.heap.size w (w.alloc (.cells #[.string ⟨#[]⟩, .string ⟨#[]⟩, .string ⟨#[]⟩, .int .i64 0, .int .i64 0] 37)) := (Below.refl _ _).alloc (Nat.le_refl _) _
  have hbk := heap_alloc_new w (.cells #[.string ⟨#[]⟩, .string ⟨#[]⟩, .string ⟨#[]⟩, .int .i64 0, .int .i64 0] 37)
  have HT := Lib.hid (hT.below hb0)
  have HTW := Lib.hid hT
  by_cases h6 : n = 6
  case neg =>
    have HN : Hid (readBndL l = none) := readBnd_no (by omega)
    have h6' : ((n : Int) != 6) = true := by rw [bne_iff_ne]; omega
    clear hc hT HT h6 hl
    go_enter Tryz.func56, Tryz.ntmps56
    go_upto_region 1 with fail
    generalize w.alloc (.cells #[.string ⟨#[]⟩, .string ⟨#[]⟩, .string ⟨#[]⟩, .int .i64 0, .int .i64 0] 37) = W0 at *
    -- the answer: none; W: W0, its result's box: hbk, above w: hb0
    have HZ5 := Lib.hid (res5 (.string ⟨#[]⟩) (.string ⟨#[]⟩) (.string ⟨#[]⟩) (.int .i64 0) (.int .i64 0) hb0 hbk)
    -- the cells of the two boxes: hbk: the result's, $2: the bond's
    have r0 := block_cell hbk 0
    have r1 := block_cell hbk 1
    have r2 := block_cell hbk 2
    have r3 := block_cell hbk 3
    have r4 := block_cell hbk 4
    have f0 := block_free hbk 0
    have f1 := block_free hbk 1
    have f2 := block_free hbk 2
    have f3 := block_free hbk 3
    have f4 := block_free hbk 4
    go_wp2_with fail
    obtain ⟨k1, k2⟩ := HZ5.out
    have p0 := block_cell k2 0
    have p1 := block_cell k2 1
    have p2 := block_cell k2 2
    have p3 := block_cell k2 3
    have p4 := block_cell k2 4
    exact bodyPost_ret (v := .tuple #[.agg #[.string ⟨#[]⟩, .string ⟨#[]⟩, .string ⟨#[]⟩, .int .i64 0, .int .i64 0], .bool false]) (by simp [results, Tryz.results56, go_sem, p0, p1, p2, p3, p4]) rfl (BndR.bad HN.out rfl k1)
  subst h6
  obtain ⟨x0, a, b, c, d, e5, rfl⟩ := six_parts hl
  have h6' : ((6 : Int) != 6) = false := rfl
  obtain ⟨q1, ha⟩ := hc 1 a rfl
  obtain ⟨q2, hb⟩ := hc 2 b rfl
  obtain ⟨q3, hcl⟩ := hc 3 c rfl
  obtain ⟨q4, hd⟩ := hc 4 d rfl
  obtain ⟨q5, he⟩ := hc 5 e5 rfl
  have HQ := Lib.hid (And.intro q1 (And.intro q2 (And.intro q3 (And.intro q4 q5))))
  have q1 := cell_below hb0 q1
  have q2 := cell_below hb0 q2
  have q3 := cell_below hb0 q3
  have HA : Hid (∀ wx, Calls Tryz.prog 107 #[.string (bs a)] wx fun e w' => e = .returned (.bool (wordB a)) ∧ Below wx.heap.size wx w') := fun wx => by
    have h := word_any (bs a) wx (by unfold Sm; rw [bs_size]; exact ha); rw [bs_list] at h; exact h
  have HB : Hid (∀ wx, Calls Tryz.prog 107 #[.string (bs b)] wx fun e w' => e = .returned (.bool (wordB b)) ∧ Below wx.heap.size wx w') := fun wx => by
    have h := word_any (bs b) wx (by unfold Sm; rw [bs_size]; exact hb); rw [bs_list] at h; exact h
  have HC : Hid (∀ wx, Calls Tryz.prog 107 #[.string (bs c)] wx fun e w' => e = .returned (.bool (wordB c)) ∧ Below wx.heap.size wx w') := fun wx => by
    have h := word_any (bs c) wx (by unfold Sm; rw [bs_size]; exact hcl); rw [bs_list] at h; exact h
  have HND : Hid (∀ wx, TxOk wx → Calls Tryz.prog 111 #[.string (bs d), .int .i64 (2 : Nat)] wx fun e w' => ∃ n : Int, e = .returned (.tuple #[.int .i64 n, .bool (numL d 2).isSome]) ∧ (∀ u, numL d 2 = some u → n = (u : Int)) ∧ Below wx.heap.size wx w') := by
    intro wx hw
    have h := num_any (bs d) (by unfold Sm; rw [bs_size]; exact hd) 2 (by omega) wx hw
    rw [bs_list] at h
    exact h
  have HNE : Hid (∀ wx, TxOk wx → Calls Tryz.prog 111 #[.string (bs e5), .int .i64 (2 : Nat)] wx fun e w' => ∃ n : Int, e = .returned (.tuple #[.int .i64 n, .bool (numL e5 2).isSome]) ∧ (∀ u, numL e5 2 = some u → n = (u : Int)) ∧ Below wx.heap.size wx w') := by
    intro wx hw
    have h := num_any (bs e5) (by unfold Sm; rw [bs_size]; exact he) 2 (by omega) wx hw
    rw [bs_list] at h
    exact h
  have HD2 := Lib.hid (readBnd_six x0 a b c d e5)
  have HI1 : Hid (∀ u, numL d 2 = some u → I64 (u : Int)) := fun u hu => num_i64 (by omega) hu
  have HI2 : Hid (∀ u, numL e5 2 = some u → I64 (u : Int)) := fun u hu => num_i64 (by omega) hu
  have HSM : Hid (Sm (bs a) ∧ Sm (bs b) ∧ Sm (bs c)) := by unfold Hid Sm; rw [bs_size, bs_size, bs_size]; exact ⟨ha, hb, hcl⟩
  have hel : (bs anyW).toList = [97, 110, 121] := by decide +kernel
  have hqe := bs_lit (K := e5) hel
  have HQE := Lib.hid hqe
  generalize numL d 2 = nd at *
  generalize numL e5 2 = ne at *
  generalize [x0, a, b, c, d, e5] = L at *
  clear hc hT hl ha hb hcl hd he q4 q5 hel hqe
  cases ha : wordB a with
  | false =>
    have HN : Hid (readBndL L = none) := by unfold Hid; rw [HD2.out, if_neg (fun h => by rw [ha] at h; cases h.1)]
    rw [ha] at HA
    clear HD2 HB HC HND HNE HI1 HI2 HSM HQE ha
    go_enter Tryz.func56, Tryz.ntmps56
    go_upto_region 1 with fail
    generalize w.alloc (.cells #[.string ⟨#[]⟩, .string ⟨#[]⟩, .string ⟨#[]⟩, .int .i64 0, .int .i64 0] 37) = W0 at *
    go_wp2_with fail
    refine (HA.out _).mono ?_
    rintro e w1 ⟨rfl, hb1⟩
    have hB1 := hb0.trans (hb1.mono hb0.size)
    have hbk1 := (hb1.block _ (Array.getElem?_eq_some_iff.1 hbk).1).trans hbk
    clear hb0 hb1 hbk HT q1 q2 q3 HA
    -- the answer: none; W: w1, its result's box: hbk1, above w: hB1
    have HZ5 := Lib.hid (res5 (.string ⟨#[]⟩) (.string ⟨#[]⟩) (.string ⟨#[]⟩) (.int .i64 0) (.int .i64 0) hB1 hbk1)
    -- the cells of the two boxes: hbk1: the result's, $2: the bond's
    have r0 := block_cell hbk1 0
    have r1 := block_cell hbk1 1
    have r2 := block_cell hbk1 2
    have r3 := block_cell hbk1 3
    have r4 := block_cell hbk1 4
    have f0 := block_free hbk1 0
    have f1 := block_free hbk1 1
    have f2 := block_free hbk1 2
    have f3 := block_free hbk1 3
    have f4 := block_free hbk1 4
    go_wp2_with fail
    obtain ⟨k1, k2⟩ := HZ5.out
    have p0 := block_cell k2 0
    have p1 := block_cell k2 1
    have p2 := block_cell k2 2
    have p3 := block_cell k2 3
    have p4 := block_cell k2 4
    exact bodyPost_ret (v := .tuple #[.agg #[.string ⟨#[]⟩, .string ⟨#[]⟩, .string ⟨#[]⟩, .int .i64 0, .int .i64 0], .bool false]) (by simp [results, Tryz.results56, go_sem, p0, p1, p2, p3, p4]) rfl (BndR.bad HN.out rfl k1)
  | true =>
  rw [ha] at HA
  cases hb : wordB b with
  | false =>
    have HN : Hid (readBndL L = none) := by unfold Hid; rw [HD2.out, if_neg (fun h => by rw [hb] at h; cases h.2.1)]
    rw [hb] at HB
    clear HD2 HC HND HNE HI1 HI2 HSM HQE ha hb
    go_enter Tryz.func56, Tryz.ntmps56
    go_upto_region 1 with fail
    generalize w.alloc (.cells #[.string ⟨#[]⟩, .string ⟨#[]⟩, .string ⟨#[]⟩, .int .i64 0, .int .i64 0] 37) = W0 at *
    go_wp2_with fail
    refine (HA.out _).mono ?_
    rintro e w1 ⟨rfl, hb1⟩
    have hB1 := hb0.trans (hb1.mono hb0.size)
    have hbk1 := (hb1.block _ (Array.getElem?_eq_some_iff.1 hbk).1).trans hbk
    have q2 := cell_below hb1 q2
    clear hb0 hb1 hbk HT q1 q3 HA
    go_wp2_with fail
    refine (HB.out _).mono ?_
    rintro e w2 ⟨rfl, hb2⟩
    have hB2 := hB1.trans (hb2.mono hB1.size)
    have hbk2 := (hb2.block _ (Array.getElem?_eq_some_iff.1 hbk1).1).trans hbk1
    clear hB1 hb2 hbk1 q2 HB
    -- the answer: none; W: w2, its result's box: hbk2, above w: hB2
    have HZ5 := Lib.hid (res5 (.string ⟨#[]⟩) (.string ⟨#[]⟩) (.string ⟨#[]⟩) (.int .i64 0) (.int .i64 0) hB2 hbk2)
    -- the cells of the two boxes: hbk2: the result's, $2: the bond's
    have r0 := block_cell hbk2 0
    have r1 := block_cell hbk2 1
    have r2 := block_cell hbk2 2
    have r3 := block_cell hbk2 3
    have r4 := block_cell hbk2 4
    have f0 := block_free hbk2 0
    have f1 := block_free hbk2 1
    have f2 := block_free hbk2 2
    have f3 := block_free hbk2 3
    have f4 := block_free hbk2 4
    go_wp2_with fail
    obtain ⟨k1, k2⟩ := HZ5.out
    have p0 := block_cell k2 0
    have p1 := block_cell k2 1
    have p2 := block_cell k2 2
    have p3 := block_cell k2 3
    have p4 := block_cell k2 4
    exact bodyPost_ret (v := .tuple #[.agg #[.string ⟨#[]⟩, .string ⟨#[]⟩, .string ⟨#[]⟩, .int .i64 0, .int .i64 0], .bool false]) (by simp [results, Tryz.results56, go_sem, p0, p1, p2, p3, p4]) rfl (BndR.bad HN.out rfl k1)
  | true =>
  rw [hb] at HB
  cases hcw : wordB c with
  | false =>
    have HN : Hid (readBndL L = none) := by unfold Hid; rw [HD2.out, if_neg (fun h => by rw [hcw] at h; cases h.2.2)]
    rw [hcw] at HC
    clear HD2 HND HNE HI1 HI2 HSM HQE ha hb hcw
    go_enter Tryz.func56, Tryz.ntmps56
    go_upto_region 1 with fail
    generalize w.alloc (.cells #[.string ⟨#[]⟩, .string ⟨#[]⟩, .string ⟨#[]⟩, .int .i64 0, .int .i64 0] 37) = W0 at *
    go_wp2_with fail
    refine (HA.out _).mono ?_
    rintro e w1 ⟨rfl, hb1⟩
    have hB1 := hb0.trans (hb1.mono hb0.size)
    have hbk1 := (hb1.block _ (Array.getElem?_eq_some_iff.1 hbk).1).trans hbk
    have q2 := cell_below hb1 q2
    have q3 := cell_below hb1 q3
    clear hb0 hb1 hbk HT q1 HA
    go_wp2_with fail
    refine (HB.out _).mono ?_
    rintro e w2 ⟨rfl, hb2⟩
    have hB2 := hB1.trans (hb2.mono hB1.size)
    have hbk2 := (hb2.block _ (Array.getElem?_eq_some_iff.1 hbk1).1).trans hbk1
    have q3 := cell_below hb2 q3
    clear hB1 hb2 hbk1 q2 HB
    go_wp2_with fail
    refine (HC.out _).mono ?_
    rintro e w3 ⟨rfl, hb3⟩
    have hB3 := hB2.trans (hb3.mono hB2.size)
    have hbk3 := (hb3.block _ (Array.getElem?_eq_some_iff.1 hbk2).1).trans hbk2
    clear hB2 hb3 hbk2 q3 HC
    -- the answer: none; W: w3, its result's box: hbk3, above w: hB3
    have HZ5 := Lib.hid (res5 (.string ⟨#[]⟩) (.string ⟨#[]⟩) (.string ⟨#[]⟩) (.int .i64 0) (.int .i64 0) hB3 hbk3)
    -- the cells of the two boxes: hbk3: the result's, $2: the bond's
    have r0 := block_cell hbk3 0
    have r1 := block_cell hbk3 1
    have r2 := block_cell hbk3 2
    have r3 := block_cell hbk3 3
    have r4 := block_cell hbk3 4
    have f0 := block_free hbk3 0
    have f1 := block_free hbk3 1
    have f2 := block_free hbk3 2
    have f3 := block_free hbk3 3
    have f4 := block_free hbk3 4
    go_wp2_with fail
    obtain ⟨k1, k2⟩ := HZ5.out
    have p0 := block_cell k2 0
    have p1 := block_cell k2 1
    have p2 := block_cell k2 2
    have p3 := block_cell k2 3
    have p4 := block_cell k2 4
    exact bodyPost_ret (v := .tuple #[.agg #[.string ⟨#[]⟩, .string ⟨#[]⟩, .string ⟨#[]⟩, .int .i64 0, .int .i64 0], .bool false]) (by simp [results, Tryz.results56, go_sem, p0, p1, p2, p3, p4]) rfl (BndR.bad HN.out rfl k1)
  | true =>
  rw [hcw] at HC
  have HD3 : Hid (readBndL L = bndOf a b c e5 nd ne) := by unfold Hid; rw [HD2.out, if_pos ⟨ha, hb, hcw⟩]
  clear HD2 ha hb hcw
  go_enter Tryz.func56, Tryz.ntmps56
  go_upto_region 1 with fail
  generalize w.alloc (.cells #[.string ⟨#[]⟩, .string ⟨#[]⟩, .string ⟨#[]⟩, .int .i64 0, .int .i64 0] 37) = W0 at *
  go_wp2_with fail
  refine (HA.out _).mono ?_
  rintro e w1 ⟨rfl, hb1⟩
  have hB1 := hb0.trans (hb1.mono hb0.size)
  have hbk1 := (hb1.block _ (Array.getElem?_eq_some_iff.1 hbk).1).trans hbk
  have HT1 := Lib.hid (HT.out.below hb1)
  have q2 := cell_below hb1 q2
  have q3 := cell_below hb1 q3
  clear hb0 hb1 hbk HT q1 HA
  go_wp2_with fail
  refine (HB.out _).mono ?_
  rintro e w2 ⟨rfl, hb2⟩
  have hB2 := hB1.trans (hb2.mono hB1.size)
  have hbk2 := (hb2.block _ (Array.getElem?_eq_some_iff.1 hbk1).1).trans hbk1
  have HT2 := Lib.hid (HT1.out.below hb2)
  have q3 := cell_below hb2 q3
  clear hB1 hb2 hbk1 q2 HB HT1
  go_wp2_with fail
  refine (HC.out _).mono ?_
  rintro e w3 ⟨rfl, hb3⟩
  have hB3 := hB2.trans (hb3.mono hB2.size)
  have hbk3 := (hb3.block _ (Array.getElem?_eq_some_iff.1 hbk2).1).trans hbk2
  have HT3 := Lib.hid (HT2.out.below hb3)
  have hw3 : w.heap.size < w3.heap.size := (Array.getElem?_eq_some_iff.1 hbk3).1
  have q1 := cell_below hB3 HQ.out.1
  have q2 := cell_below hB3 HQ.out.2.1
  have q3 := cell_below hB3 HQ.out.2.2.1
  clear hB2 hb3 hbk2 HC HT2
  go_upto_region 3 with fail
  have haz : Below w3.heap.size w3 (w3.alloc (.cells #[.string ⟨#[]⟩, .string ⟨#[]⟩, .string ⟨#[]⟩, .int .i64 0, .int .i64 0] 37)) := (Below.refl _ _).alloc (Nat.le_refl _) _
  have p1 := cell_below haz q1
  have p2 := cell_below haz q2
  have p3 := cell_below haz q3
  go_region
  clear p1 p2 p3 q1 q2 q3 haz
  have ha4 : Below w3.heap.size w3 (w3.alloc (.cells #[.string (bs a), .string (bs b), .string (bs c), .int .i64 0, .int .i64 (-1)] 37)).drew := ((Below.refl _ _).alloc (Nat.le_refl _) _).drew
  have hbx4 : (w3.alloc (.cells #[.string (bs a), .string (bs b), .string (bs c), .int .i64 0, .int .i64 (-1)] 37)).drew.heap[w3.heap.size]? = some (.cells #[.string (bs a), .string (bs b), .string (bs c), .int .i64 0, .int .i64 (-1)] 37 (0, 0)) := heap_alloc_new w3 _
  have hbk4 := (ha4.block _ (Array.getElem?_eq_some_iff.1 hbk3).1).trans hbk3
  have hB4 := hB3.trans (ha4.mono hB3.size)
  have hqw : w.heap.size ≤ w3.heap.size := hB3.size
  have hne : w.heap.size ≠ w3.heap.size := by omega
  have q4 := cell_below hB4 HQ.out.2.2.2.1
  have q5 := cell_below hB4 HQ.out.2.2.2.2
  have HT4 := Lib.hid (HT3.out.below ha4)
  have Q5 := Lib.hid HQ.out.2.2.2.2
  clear HT3 ha4 hbk3 hB3 hw3 HQ
  generalize (w3.alloc (.cells #[.string (bs a), .string (bs b), .string (bs c), .int .i64 0, .int .i64 (-1)] 37)).drew = W4 at *
  generalize w3.heap.size = q at *
  go_wp2_with fail
  refine (HND.out W4 HT4.out).mono ?_
  clear HND
  rintro e w5 ⟨n1, rfl, hn1, hb5⟩
  have HN1 := Lib.hid hn1
  have q5 := cell_below hb5 q5
  have hbx5 := (hb5.block _ (Array.getElem?_eq_some_iff.1 hbx4).1).trans hbx4
  have hbk5 := (hb5.block _ (Array.getElem?_eq_some_iff.1 hbk4).1).trans hbk4
  have hB5 := hB4.trans (hb5.mono hB4.size)
  have HT5 := Lib.hid (HT4.out.below hb5)
  clear hn1 hbx4 hbk4 hB4 hb5 HT4 q4
  have z3 := block_cell hbx5 3
  have g3 := block_free hbx5 3
  have hbx6 : (w5.setCell ⟨q, 3, none⟩ (.int .i64 n1)).heap[q]? = some (.cells #[.string (bs a), .string (bs b), .string (bs c), .int .i64 n1, .int .i64 (-1)] 37 (0, 0)) := setCell_block hbx5 3 (.int .i64 n1)
  have hbk6 := setCell_other hbk5 hne 3 (.int .i64 n1)
  have hB6 := hB5.setCell (p := ⟨q, 3, none⟩) hqw (.int .i64 n1)
  have q6 := cell_below hB6 Q5.out
  have HSM2 := HSM.out
  have HOK : Hid (∀ mn mx : Int, I64 mn → I64 mx → (⟨bs a, bs b, bs c, mn, mx⟩ : Bnd).ok) := fun mn mx h1 h2 => ⟨HSM2.1, HSM2.2.1, HSM2.2.2, h1, h2⟩
  clear hbx5 hbk5 hB5 HSM2 HSM
  have HB6 := Lib.hid hB6
  have HT6 := Lib.hid (HTW.out.below hB6)
  have q5' := q5
  cases nd with
  | none =>
    have HN : Hid (readBndL L = none) := HD3.out
    rw [show (none : Option Nat).isSome = false from rfl]
    clear HD3 HI1 HI2 HNE HN1
    by_cases he : e5 = anyW
    · have b1 : (bs e5).toList = [97, 110, 121] := by rw [HQE.out]; exact he
      have b2 : ((bs e5).toList == [97, 110, 121]) = true := by rw [b1]; rfl
      clear HQE he
      go_upto_region 6 with fail
      clear z3 g3 q5 q5'
      generalize w5.setCell ⟨q, 3, none⟩ (.int .i64 n1) = W6 at *
      -- what was read is answered: the world's result's box hbk6, the bond's box hbx6, above w hB6; the numbers n1, (-1); is it one: false; the end: BndR.bad HN.out rfl k1
      have HZ5 := Lib.hid (res5 (.string (bs a)) (.string (bs b)) (.string (bs c)) (.int .i64 n1) (.int .i64 (-1)) hB6 hbk6)
      have z0 := block_cell hbx6 0
      have z1 := block_cell hbx6 1
      have z2 := block_cell hbx6 2
      have z3 := block_cell hbx6 3
      have z4 := block_cell hbx6 4
      -- the cells of the two boxes: hbk6: the result's, $2: the bond's
      have r0 := block_cell hbk6 0
      have r1 := block_cell hbk6 1
      have r2 := block_cell hbk6 2
      have r3 := block_cell hbk6 3
      have r4 := block_cell hbk6 4
      have f0 := block_free hbk6 0
      have f1 := block_free hbk6 1
      have f2 := block_free hbk6 2
      have f3 := block_free hbk6 3
      have f4 := block_free hbk6 4
      go_wp2_with fail
      obtain ⟨k1, k2⟩ := HZ5.out
      have p0 := block_cell k2 0
      have p1 := block_cell k2 1
      have p2 := block_cell k2 2
      have p3 := block_cell k2 3
      have p4 := block_cell k2 4
      exact bodyPost_ret (v := .tuple #[.agg #[.string (bs a), .string (bs b), .string (bs c), .int .i64 n1, .int .i64 (-1)], .bool false]) (by simp [results, Tryz.results56, go_sem, p0, p1, p2, p3, p4]) rfl (BndR.bad HN.out rfl k1)
    · have b1 : ¬ (bs e5).toList = [97, 110, 121] := by rw [HQE.out]; exact he
      have b2 : ((bs e5).toList == [97, 110, 121]) = false := beq_eq_false_iff_ne.2 b1
      clear HQE he
      go_upto_region 6 with fail
      clear z3 g3 q5 q5'
      generalize w5.setCell ⟨q, 3, none⟩ (.int .i64 n1) = W6 at *
      -- what was read is answered: the world's result's box hbk6, the bond's box hbx6, above w hB6; the numbers n1, (-1); is it one: false; the end: BndR.bad HN.out rfl k1
      have HZ5 := Lib.hid (res5 (.string (bs a)) (.string (bs b)) (.string (bs c)) (.int .i64 n1) (.int .i64 (-1)) hB6 hbk6)
      have z0 := block_cell hbx6 0
      have z1 := block_cell hbx6 1
      have z2 := block_cell hbx6 2
      have z3 := block_cell hbx6 3
      have z4 := block_cell hbx6 4
      -- the cells of the two boxes: hbk6: the result's, $2: the bond's
      have r0 := block_cell hbk6 0
      have r1 := block_cell hbk6 1
      have r2 := block_cell hbk6 2
      have r3 := block_cell hbk6 3
      have r4 := block_cell hbk6 4
      have f0 := block_free hbk6 0
      have f1 := block_free hbk6 1
      have f2 := block_free hbk6 2
      have f3 := block_free hbk6 3
      have f4 := block_free hbk6 4
      go_wp2_with fail
      obtain ⟨k1, k2⟩ := HZ5.out
      have p0 := block_cell k2 0
      have p1 := block_cell k2 1
      have p2 := block_cell k2 2
      have p3 := block_cell k2 3
      have p4 := block_cell k2 4
      exact bodyPost_ret (v := .tuple #[.agg #[.string (bs a), .string (bs b), .string (bs c), .int .i64 n1, .int .i64 (-1)], .bool false]) (by simp [results, Tryz.results56, go_sem, p0, p1, p2, p3, p4]) rfl (BndR.bad HN.out rfl k1)
  | some mn =>
    obtain rfl := HN1.out mn rfl
    have HI := Lib.hid (HI1.out mn rfl)
    have HD4 : Hid (bndOf a b c e5 (some mn) ne = if e5 = anyW then some ⟨bs a, bs b, bs c, mn, -1⟩ else match ne with | none => none | some mx => some ⟨bs a, bs b, bs c, mn, mx⟩) := rfl
    rw [show (some mn : Option Nat).isSome = true from rfl]
    clear HI1 HN1
    by_cases he : e5 = anyW
    · have b1 : (bs e5).toList = [97, 110, 121] := by rw [HQE.out]; exact he
      have b2 : ((bs e5).toList == [97, 110, 121]) = true := by rw [b1]; rfl
      have HN : Hid (readBndL L = some ⟨bs a, bs b, bs c, mn, -1⟩) := by unfold Hid; rw [HD3.out, HD4.out, if_pos he]
      clear HQE he HD3 HD4 HNE HI2
      go_upto_region 6 with fail
      clear z3 g3 q5 q5'
      generalize w5.setCell ⟨q, 3, none⟩ (.int .i64 (mn : Int)) = W6 at *
      -- what was read is answered: the world's result's box hbk6, the bond's box hbx6, above w hB6; the numbers (mn : Int), (-1); is it one: true; the end: ⟨_, _, _, _, _, by rw [HN.out]; rfl, (fun d hd => by rw [HN.out] at hd; injection hd with hd; subst hd; exact ⟨rfl, rfl, rfl, rfl, rfl, HOK.out _ _ HI.out (by unfold I64; omega)⟩), k1⟩
      have HZ5 := Lib.hid (res5 (.string (bs a)) (.string (bs b)) (.string (bs c)) (.int .i64 (mn : Int)) (.int .i64 (-1)) hB6 hbk6)
      have z0 := block_cell hbx6 0
      have z1 := block_cell hbx6 1
      have z2 := block_cell hbx6 2
      have z3 := block_cell hbx6 3
      have z4 := block_cell hbx6 4
      -- the cells of the two boxes: hbk6: the result's, $2: the bond's
      have r0 := block_cell hbk6 0
      have r1 := block_cell hbk6 1
      have r2 := block_cell hbk6 2
      have r3 := block_cell hbk6 3
      have r4 := block_cell hbk6 4
      have f0 := block_free hbk6 0
      have f1 := block_free hbk6 1
      have f2 := block_free hbk6 2
      have f3 := block_free hbk6 3
      have f4 := block_free hbk6 4
      go_wp2_with fail
      obtain ⟨k1, k2⟩ := HZ5.out
      have p0 := block_cell k2 0
      have p1 := block_cell k2 1
      have p2 := block_cell k2 2
      have p3 := block_cell k2 3
      have p4 := block_cell k2 4
      exact bodyPost_ret (v := .tuple #[.agg #[.string (bs a), .string (bs b), .string (bs c), .int .i64 (mn : Int), .int .i64 (-1)], .bool true]) (by simp [results, Tryz.results56, go_sem, p0, p1, p2, p3, p4]) rfl (⟨_, _, _, _, _, by rw [HN.out]; rfl, (fun d hd => by rw [HN.out] at hd; injection hd with hd; subst hd; exact ⟨rfl, rfl, rfl, rfl, rfl, HOK.out _ _ HI.out (by unfold I64; omega)⟩), k1⟩)
    · have b1 : ¬ (bs e5).toList = [97, 110, 121] := by rw [HQE.out]; exact he
      have b2 : ((bs e5).toList == [97, 110, 121]) = false := beq_eq_false_iff_ne.2 b1
      have HN0 : Hid (readBndL L = match ne with | none => none | some mx => some ⟨bs a, bs b, bs c, mn, mx⟩) := by unfold Hid; rw [HD3.out, HD4.out, if_neg he]
      clear HQE he HD3 HD4
      go_upto_region 6 with fail
      clear z3 g3 q5 q5'
      generalize w5.setCell ⟨q, 3, none⟩ (.int .i64 (mn : Int)) = W6 at *
      go_wp2_with fail
      refine (HNE.out W6 HT6.out).mono ?_
      clear HNE
      rintro e w7 ⟨n2, rfl, hn2, hb7⟩
      have HN2 := Lib.hid hn2
      have hbx7 := (hb7.block _ (Array.getElem?_eq_some_iff.1 hbx6).1).trans hbx6
      have hbk7 := (hb7.block _ (Array.getElem?_eq_some_iff.1 hbk6).1).trans hbk6
      have hB7 := hB6.trans (hb7.mono hB6.size)
      clear hn2 hbx6 hbk6 hB6 hb7 HT6 q6 HB6
      have z4 := block_cell hbx7 4
      have g4 := block_free hbx7 4
      have hbx8 : (w7.setCell ⟨q, 4, none⟩ (.int .i64 n2)).heap[q]? = some (.cells #[.string (bs a), .string (bs b), .string (bs c), .int .i64 (mn : Int), .int .i64 n2] 37 (0, 0)) := setCell_block hbx7 4 (.int .i64 n2)
      have hbk8 := setCell_other hbk7 hne 4 (.int .i64 n2)
      have hB8 := hB7.setCell (p := ⟨q, 4, none⟩) hqw (.int .i64 n2)
      clear hbx7 hbk7 hB7
      go_upto_region 9 with fail
      clear z4 g4
      generalize w7.setCell ⟨q, 4, none⟩ (.int .i64 n2) = W8 at *
      cases ne with
      | none =>
        have HN : Hid (readBndL L = none) := HN0.out
        rw [show (none : Option Nat).isSome = false from rfl]
        clear HN0 HN2 HI2
        -- what was read is answered: the world's result's box hbk8, the bond's box hbx8, above w hB8; the numbers (mn : Int), n2; is it one: false; the end: BndR.bad HN.out rfl k1
        have HZ5 := Lib.hid (res5 (.string (bs a)) (.string (bs b)) (.string (bs c)) (.int .i64 (mn : Int)) (.int .i64 n2) hB8 hbk8)
        have z0 := block_cell hbx8 0
        have z1 := block_cell hbx8 1
        have z2 := block_cell hbx8 2
        have z3 := block_cell hbx8 3
        have z4 := block_cell hbx8 4
        -- the cells of the two boxes: hbk8: the result's, $2: the bond's
        have r0 := block_cell hbk8 0
        have r1 := block_cell hbk8 1
        have r2 := block_cell hbk8 2
        have r3 := block_cell hbk8 3
        have r4 := block_cell hbk8 4
        have f0 := block_free hbk8 0
        have f1 := block_free hbk8 1
        have f2 := block_free hbk8 2
        have f3 := block_free hbk8 3
        have f4 := block_free hbk8 4
        go_wp2_with fail
        obtain ⟨k1, k2⟩ := HZ5.out
        have p0 := block_cell k2 0
        have p1 := block_cell k2 1
        have p2 := block_cell k2 2
        have p3 := block_cell k2 3
        have p4 := block_cell k2 4
        exact bodyPost_ret (v := .tuple #[.agg #[.string (bs a), .string (bs b), .string (bs c), .int .i64 (mn : Int), .int .i64 n2], .bool false]) (by simp [results, Tryz.results56, go_sem, p0, p1, p2, p3, p4]) rfl (BndR.bad HN.out rfl k1)
      | some mx =>
        have HN : Hid (readBndL L = some ⟨bs a, bs b, bs c, mn, mx⟩) := HN0.out
        obtain rfl := HN2.out mx rfl
        have HJ := Lib.hid (HI2.out mx rfl)
        rw [show (some mx : Option Nat).isSome = true from rfl]
        clear HN0 HN2 HI2
        -- what was read is answered: the world's result's box hbk8, the bond's box hbx8, above w hB8; the numbers (mn : Int), (mx : Int); is it one: true; the end: ⟨_, _, _, _, _, by rw [HN.out]; rfl, (fun d hd => by rw [HN.out] at hd; injection hd with hd; subst hd; exact ⟨rfl, rfl, rfl, rfl, rfl, HOK.out _ _ HI.out HJ.out⟩), k1⟩
        have HZ5 := Lib.hid (res5 (.string (bs a)) (.string (bs b)) (.string (bs c)) (.int .i64 (mn : Int)) (.int .i64 (mx : Int)) hB8 hbk8)
        have z0 := block_cell hbx8 0
        have z1 := block_cell hbx8 1
        have z2 := block_cell hbx8 2
        have z3 := block_cell hbx8 3
        have z4 := block_cell hbx8 4
        -- the cells of the two boxes: hbk8: the result's, $2: the bond's
        have r0 := block_cell hbk8 0
        have r1 := block_cell hbk8 1
        have r2 := block_cell hbk8 2
        have r3 := block_cell hbk8 3
        have r4 := block_cell hbk8 4
        have f0 := block_free hbk8 0
        have f1 := block_free hbk8 1
        have f2 := block_free hbk8 2
        have f3 := block_free hbk8 3
        have f4 := block_free hbk8 4
        go_wp2_with fail
        obtain ⟨k1, k2⟩ := HZ5.out
        have p0 := block_cell k2 0
        have p1 := block_cell k2 1
        have p2 := block_cell k2 2
        have p3 := block_cell k2 3
        have p4 := block_cell k2 4
        exact bodyPost_ret (v := .tuple #[.agg #[.string (bs a), .string (bs b), .string (bs c), .int .i64 (mn : Int), .int .i64 (mx : Int)], .bool true]) (by simp [results, Tryz.results56, go_sem, p0, p1, p2, p3, p4]) rfl (⟨_, _, _, _, _, by rw [HN.out]; rfl, (fun d hd => by rw [HN.out] at hd; injection hd with hd; subst hd; exact ⟨rfl, rfl, rfl, rfl, rfl, HOK.out _ _ HI.out HJ.out⟩), k1⟩)
end Go.Proofs.YtdmpkgiijddcdaaGreatDoor
