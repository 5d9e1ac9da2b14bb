/- Parts: AbL, OpenB, OpenC, OpenH, OpenI, LaidW, TxG. -/
import Derived.Test.YtakidgndipnciaaDoorMg22
import Derived.Test.YtakidgndipnciaaDoorMg23
import Derived.Test.YtakidgndipnciaaDoorMg15
import Derived.Test.YtakidgndipnciaaDoorMg21
import Derived.ChangeMaps5
import Derived.Test.YtakidgndipnciaaDoorMg13
import Derived.Lib.LaidU8
import Derived.LaidHandle
import Derived.MakeChecks
import Derived.Test.YtakidgndipnciaaDoorMg07
import Derived.LaidLaws
import Derived.Lib.LaidTab
import Derived.Shelf.Vars
/- The law kinlaw2.AskBack: a path is read as it was. Conditions: the text is not too long; the library's errors and the signs are laid. -/
namespace Go.Proofs.YtakidgndipnciaaDoor
open Go Go.RowKit



def factS : ByteArray := ⟨#[97, 91, 120, 60, 51, 44, 121, 93, 32, 60, 45, 112, 45, 32, 98]⟩
def factA : Stp := ⟨⟨#[]⟩, false, ⟨#[97]⟩, [⟨⟨#[120]⟩, 3, ⟨1, 3, ⟨#[]⟩⟩⟩, ⟨⟨#[121]⟩, 4, ⟨0, 0, ⟨#[]⟩⟩⟩]⟩
def factB : Stp := ⟨⟨#[112]⟩, true, ⟨#[98]⟩, []⟩
set_option maxRecDepth 100000 in
theorem fact_reads : readAE factS.data.toList = 0 ∧ readAN factS.data.toList = 0 ∧ readAV factS.data.toList = [factA, factB] := by
  refine ⟨by decide +kernel, by decide +kernel, by decide +kernel⟩
set_option maxRecDepth 100000 in
set_option maxHeartbeats 8000000 in
theorem askBack_any (l : List Stp) (s : ByteArray) (vl : Value) (w : World) (hT : TxOk w) (hG : Sgn5 w) (hl : Sl stpL w vl l) (hs : Sm s) :
    Calls Tryd.prog 4 #[vl, .string s] w fun e w' => e = .returned (.bool true) ∧ Below w.heap.size w w' := by
  obtain ⟨A, c, rfl, _, hcm⟩ := hl.form
  have HL := Lib.hid hl
  have HT := Lib.hid hT
  have HG := Lib.hid hG
  have hx := parse_any factS (by unfold Sm; decide) w hT hG
  obtain ⟨r1, r2, r3⟩ := fact_reads
  unfold ParseR at hx
  rw [r1, r2, r3] at hx
  have HS := Lib.hid hs
  clear hT hG hl r1 r2 r3 hs
  go_enter Tryd.func4, Tryd.ntmps4
  go_wp2_with fail
  refine hx.mono ?_
  clear hx
  rintro e w1 ⟨v1, rfl, hsl, hb1⟩
  rw [errV_zero rfl]
  obtain ⟨A1, c1, rfl, _, _⟩ := hsl.form
  obtain ⟨gb, ob, hA, u1, _, _, hu1, b0, b1, b2, b3⟩ := stp_at hsl (k := 1) (d := factB) rfl
  subst hA
  obtain ⟨gb', ob', hA, u0, _, _, hu0, a0, a1, a2, a3⟩ := stp_at hsl (k := 0) (d := factA) rfl
  injection hA with hA
  injection hA with e1 e2
  subst e1
  subst e2
  obtain ⟨A2, c2, rfl, _, _⟩ := hu0.form
  obtain ⟨gt, ot, rfl, _, t0, t1, t2, t3, t4⟩ := tst_at hu0 (k := 0) (d := ⟨⟨#[120]⟩, 3, ⟨1, 3, ⟨#[]⟩⟩⟩) rfl
  simp only [Nat.zero_mul, Nat.add_zero, Nat.one_mul] at a0 a1 a2 a3 b0 b1 b2 b3 t0 t1 t2 t3 t4
  replace b0 : w1.cell? ⟨gb, ob + 4, none⟩ = some (.string ⟨#[112]⟩) := b0
  replace b1 : w1.cell? ⟨gb, ob + 4 + 1, none⟩ = some (.bool true) := b1
  replace a3 : w1.cell? ⟨gb, ob + 3, none⟩ = some (.slice (some ⟨gt, ot, none⟩) 2 c2) := a3
  replace t1 : w1.cell? ⟨gt, ot + 1, none⟩ = some (.int .i64 3) := t1
  rw [show ([factA, factB] : List Stp).length = 2 from rfl]
  have p1 : (⟨#[112]⟩ : ByteArray).toList = [112] := by decide +kernel
  obtain ⟨bp, hbp⟩ : ∃ bp : ByteArray, bp = ⟨#[112]⟩ := ⟨_, rfl⟩
  rw [← hbp] at b0 p1
  have p2 : (bp.toList == [112]) = true := by rw [p1]; rfl
  have p3 : (bp.toList != [112]) = false := by rw [p1]; rfl
  clear hbp
  have HB1 := Lib.hid hb1
  clear hsl hu1 hu0 a0 a1 a2 b2 b3 t0 t2 t3 t4 hb1
  go_upto_region 4 with fail
  clear a3 b0 b1 t1 p1 p2 p3
  have hx := aprint_any l (.slice A l.length c) w1 (HT.out.toTxP.below HB1.out) (HG.out.1.below HB1.out) (HL.out.below HB1.out)
  obtain ⟨ae, hae⟩ : ∃ ae, ae = askE l := ⟨_, rfl⟩
  have HAE := Lib.hid hae
  rw [← hae] at hx
  obtain ⟨tx, htx⟩ : ∃ tx, tx = bs (if ae = 0 then askT l else []) := ⟨_, rfl⟩
  rw [← htx] at hx
  have HTX := Lib.hid htx
  clear htx
  have HLEN : Hid (ae = 0 → (askT l).length ≤ 1048576) := fun h => by
    have hp := ask_parts2 (l := l) (by rw [← hae]; exact h)
    have h2 := askT_bound hp.2 l.length (Nat.le_refl _)
    rw [List.take_length] at h2
    have := hp.1
    omega
  clear hae
  go_wp2_with fail
  refine hx.mono ?_
  clear hx
  rintro e w2 ⟨rfl, hb2⟩
  have HB2 := Lib.hid (HB1.out.trans (hb2.mono HB1.out.size))
  clear hb2 HB1
  go_upto_region 5 with fail
  -- a cut: the mask [.k, .k, .k, .k, .k, .k, .k, .k, .k, .y 9, .k, .k, .k, .k, .k, .k, .k, .k, .k, .k, .k, .k, .k, .k, .k, .k, .k, .k, .k, .k, .k, .k, .k, .k, .k, .k, .k, .k, .k, .k, .k, .k, .k, .k, .k, .k, .k, .k, .k, .k, .k, .k, .k, .k, .k, .k, .k, .k, .k, .k, .k, .k, .k, .k, .k, .y 65, .k, .y 67, .y 68, .y 69, .y 70, .a, .k, .k, .k, .k, .k, .k, .k, .k, .k, .k, .k, .k, .k, .k, .k, .k, .k, .k, .k, .k, .k, .k, .k, .k, .k, .k, .k, .k, .k, .k, .k, .k, .k, .k, .k], the slots 71 0 0 0, the relation fun v _ _ _ wx => v = .bool (decide (ae = 0)) ∧ wx = w2
  apply wp_cutm [.k, .k, .k, .k, .k, .k, .k, .k, .k, .y 9, .k, .k, .k, .k, .k, .k, .k, .k, .k, .k, .k, .k, .k, .k, .k, .k, .k, .k, .k, .k, .k, .k, .k, .k, .k, .k, .k, .k, .k, .k, .k, .k, .k, .k, .k, .k, .k, .k, .k, .k, .k, .k, .k, .k, .k, .k, .k, .k, .k, .k, .k, .k, .k, .k, .k, .y 65, .k, .y 67, .y 68, .y 69, .y 70, .a, .k, .k, .k, .k, .k, .k, .k, .k, .k, .k, .k, .k, .k, .k, .k, .k, .k, .k, .k, .k, .k, .k, .k, .k, .k, .k, .k, .k, .k, .k, .k, .k, .k, .k, .k] 71 0 0 0 (by decide +kernel) (fun v _ _ _ wx => v = .bool (decide (ae = 0)) ∧ wx = w2)
  case first =>
    -- within a cut
    intro JJ KK hmeet hnext
    -- of what is to be done behind only the innermost is kept
    rename ∀ (a : Act) (w : World), Code.wp _ _ _ a w → _ => hkeep
    revert hkeep
    repeat (rename ∀ (a : Act) (w : World), Code.wp _ _ _ a w → _ => hz; clear hz)
    intro hkeep
    by_cases hz : ae = 0
    · have HD := Lib.hid (decide_eq_true hz)
      rw [errV_zero hz]
      clear hz
      go_wp2_with fail
      -- a way's end
      refine Met.intro ?_
      go_step
      refine Forgot.at _ _ _ _ _ rfl rfl rfl rfl rfl rfl ?_
      exact ⟨by rw [HD.out], rfl⟩
    · have HD := Lib.hid (decide_eq_false hz)
      rw [errV_some hz]
      clear hz
      go_wp2_with fail
      -- a way's end
      refine Met.intro ?_
      go_step
      refine Forgot.at _ _ _ _ _ rfl rfl rfl rfl rfl rfl ?_
      exact ⟨by rw [HD.out], rfl⟩
  case rest =>
  -- behind a cut: the names of the slots' values u71 _ _ _ (four)
  intro ff u71 _ _ _ wc hcut
  dsimp only [spread]
  obtain ⟨rfl, hw⟩ := hcut
  obtain ⟨w2', hw2'⟩ : ∃ y : World, y = wc := ⟨_, rfl⟩
  subst hw2'
  rw [← hw] at HB2
  clear hw
  go_upto_if 71 with fail
  -- a cut: the mask [.k, .k, .k, .k, .y 4, .k, .k, .k, .y 8, .y 9, .y 10, .y 11, .y 12, .y 13, .k, .k, .k, .y 17, .k, .k, .k, .k, .k, .k, .k, .k, .k, .k, .k, .k, .k, .k, .k, .k, .k, .k, .k, .k, .k, .k, .k, .k, .k, .k, .k, .k, .k, .k, .k, .k, .k, .k, .k, .k, .k, .k, .k, .k, .k, .k, .k, .k, .k, .k, .k, .y 65, .k, .y 67, .y 68, .y 69, .y 70, .y 71, .y 72, .y 73, .y 74, .y 75, .y 76, .y 77, .y 78, .y 79, .y 80, .y 81, .y 82, .y 83, .y 84, .y 85, .y 86, .k, .k, .k, .k, .k, .k, .k, .k, .k, .k, .k, .k, .k, .k, .k, .k, .k, .k, .k, .k], the slots 0 0 0 0, the relation fun _ _ _ _ wx => Hid (Below w.heap.size w wx)
  apply wp_cutm [.k, .k, .k, .k, .y 4, .k, .k, .k, .y 8, .y 9, .y 10, .y 11, .y 12, .y 13, .k, .k, .k, .y 17, .k, .k, .k, .k, .k, .k, .k, .k, .k, .k, .k, .k, .k, .k, .k, .k, .k, .k, .k, .k, .k, .k, .k, .k, .k, .k, .k, .k, .k, .k, .k, .k, .k, .k, .k, .k, .k, .k, .k, .k, .k, .k, .k, .k, .k, .k, .k, .y 65, .k, .y 67, .y 68, .y 69, .y 70, .y 71, .y 72, .y 73, .y 74, .y 75, .y 76, .y 77, .y 78, .y 79, .y 80, .y 81, .y 82, .y 83, .y 84, .y 85, .y 86, .k, .k, .k, .k, .k, .k, .k, .k, .k, .k, .k, .k, .k, .k, .k, .k, .k, .k, .k, .k] 0 0 0 0 (by decide +kernel) (fun _ _ _ _ wx => Hid (Below w.heap.size w wx))
  case first =>
    -- within a cut
    intro JJ KK hmeet hnext
    -- of what is to be done behind only the innermost is kept
    rename ∀ (a : Act) (w : World), Code.wp _ _ _ a w → _ => hkeep
    revert hkeep
    repeat (rename ∀ (a : Act) (w : World), Code.wp _ _ _ a w → _ => hz; clear hz)
    intro hkeep
    by_cases hz : ae = 0
    case neg =>
      rw [decide_eq_false hz]
      clear hz
      go_wp2_with fail
      -- a way's end
      refine Met.intro ?_
      go_step
      refine Forgot.at _ _ _ _ _ rfl rfl rfl rfl rfl rfl ?_
      exact HB2
    rw [decide_eq_true hz]
    have HTE : Hid (tx = bs (askT l)) := by unfold Hid; rw [HTX.out, if_pos hz]
    have HR := Lib.hid (ask_right (p := l) (by rw [← HAE.out]; exact hz))
    have hx := parse_any tx (by unfold Sm; rw [HTE.out, bs_size]; exact HLEN.out hz) w2' (HT.out.below HB2.out) (HG.out.below HB2.out)
    unfold ParseR at hx
    rw [show tx.data.toList = askT l by rw [HTE.out, bs_list], HR.out.1, HR.out.2.1, HR.out.2.2] at hx
    clear hz
    go_wp2_with fail
    refine hx.mono ?_
    clear hx
    rintro e w3 ⟨v3, rfl, hs3, hb3⟩
    rw [errV_zero rfl]
    have HB3 := Lib.hid (HB2.out.trans (hb3.mono HB2.out.size))
    have hx := steps_same l v3 (.slice A l.length c) w3 hs3 (HL.out.below HB3.out)
    clear hs3 hb3
    go_wp2_with fail
    refine hx.mono ?_
    clear hx
    rintro e w4 ⟨rfl, hb4⟩
    have HB4 := Lib.hid (HB3.out.trans (hb4.mono HB3.out.size))
    clear hb4
    go_wp2_with fail
    -- a way's end
    refine Met.intro ?_
    go_step
    refine Forgot.at _ _ _ _ _ rfl rfl rfl rfl rfl rfl ?_
    exact HB4
  case rest =>
  -- behind a cut: the names of the slots' values _ _ _ _ (four)
  intro ff _ _ _ _ wc hcut
  dsimp only [spread]
  clear HB2
  obtain ⟨w5, hw5⟩ : ∃ y : World, y = wc := ⟨_, rfl⟩
  subst hw5
  have HB5 := hcut
  have hx := parse_any s HS.out w5 (HT.out.below HB5.out) (HG.out.below HB5.out)
  unfold ParseR at hx
  obtain ⟨re, hre⟩ : ∃ re, re = readAE s.data.toList := ⟨_, rfl⟩
  have HRE := Lib.hid hre
  rw [← hre] at hx
  clear hre
  go_wp2_with fail
  refine hx.mono ?_
  clear hx
  rintro e w6 ⟨v6, rfl, hs6, hb6⟩
  have HB6 := Lib.hid (HB5.out.trans (hb6.mono HB5.out.size))
  clear hb6
  by_cases hz : re = 0
  case neg =>
    rw [errV_some hz]
    clear hz hs6
    go_wp2_with fail
    go_ret
    exact ⟨rfl, HB6.out⟩
  rw [errV_zero hz]
  obtain ⟨k1, k2⟩ := ask_back (l := s.data.toList) (by rw [← HRE.out]; exact hz)
  have hx := aprint_any (readAV s.data.toList) v6 w6 (HT.out.toTxP.below HB6.out) (HG.out.1.below HB6.out) hs6
  rw [k1, if_pos rfl, k2, bs_of, errV_zero rfl] at hx
  have hss : (s.toList == s.toList) = true := beq_self_eq_true _
  clear hz hs6 k1 k2
  go_wp2_with fail
  refine hx.mono ?_
  clear hx
  rintro e w7 ⟨rfl, hb7⟩
  go_wp2_with fail
  go_ret
  exact ⟨rfl, HB6.out.trans (hb7.mono HB6.out.size)⟩
open Go Go.RowKit Go.Deep Go.ChangeShapes Go.WideShapes

theorem oInt : Opens Tryd.prog intL 3 := opens_int Tryd.underlying3
theorem oStr : Opens Tryd.prog strL 9 := opens_str Tryd.underlying9
theorem oBool : Opens Tryd.prog boolL 4 := opens_bool Tryd.underlying4

theorem o_val : Opens Tryd.prog valL 38 := by
  intro H enc w base spare held fuel cs x hx hb
  obtain ⟨hl, hf⟩ := field_at Tryd.underlying38 hx hb
  rw [show Tryd.prog.cellsOf 38 = 3 from by kernel_rfl] at hl
  match cs, hl with
  | [c0, c1, c2], _ =>
    obtain ⟨a0, e0, h0⟩ := hf (L := intL) 0 _ 1 rfl (by kernel_rfl) oInt
    have e0 : [c0] = [.int .i64 a0] := e0
    injection e0 with e0 _
    subst e0
    obtain ⟨a1, e1, h1⟩ := hf (L := intL) 1 _ 1 rfl (by kernel_rfl) oInt
    have e1 : [c1] = [.int .i64 a1] := e1
    injection e1 with e1 _
    subst e1
    obtain ⟨a2, e2, h2⟩ := hf (L := strL) 2 _ 1 rfl (by kernel_rfl) oStr
    have e2 : [c2] = [.string a2] := e2
    injection e2 with e2 _
    subst e2
    exact ⟨⟨a0, a1, a2⟩, rfl, h0, h1, h2⟩
/-! ### Arguments -/
/-- A one-cell argument. -/
theorem arg_one {D : Type} {L : Lay D} {t : TypeId} {H : Type} {enc : TypeId × Value → H} {w : World} {base : Nat} {spare : Nat → Bool} {held : Bool} {v : Value} {d : DataW H} {p : List MemPlace}
    (ho : Opens Tryd.prog L t) (h : DataW.Trod enc Tryd.prog w base spare held t v d p) (hb : Rows.uptoBulk d ≤ 1048576) : ∃ x, L.cells w x v.cells.toList := by
  obtain ⟨fuel, hf⟩ := h
  exact ho H enc w base spare held fuel _ _ hf hb

set_option maxRecDepth 100000 in
theorem arg_str {H : Type} {enc : TypeId × Value → H} {w : World} {base b0 : Nat} {r : Reach} {spare : Nat → Bool} {held : Bool} {v : Value} {d : DataW H} {p : List MemPlace}
    (hv : Value.okWide Tryd.prog w r b0 9 v) (h : DataW.Trod enc Tryd.prog w base spare held 9 v d p) (hb : Rows.uptoBulk d ≤ 1048576) : ∃ s, v = .string s ∧ Sm s := by
  obtain ⟨s, rfl, rfl, _, _⟩ := ChangeMaps.open_string Tryd.underlying9 hv h
  refine ⟨s, rfl, ?_⟩
  have hb' : s.data.toList.length + 1 ≤ 1048576 := hb
  clear hb
  unfold Sm
  have : s.data.toList.length = s.size := Array.length_toList
  omega
set_option maxRecDepth 100000 in
theorem arg_sl {D : Type} {L : Lay D} {t e : TypeId} {H : Type} {enc : TypeId × Value → H} {w : World} {base b0 : Nat} {r : Reach} {spare : Nat → Bool} {held : Bool} {v : Value} {d : DataW H} {p : List MemPlace}
    (ht : Tryd.prog.underlying t = some (.slice e)) (ho : Opens Tryd.prog (slL L) t) (hv : Value.okWide Tryd.prog w r b0 t v) (h : DataW.Trod enc Tryd.prog w base spare held t v d p) (hb : Rows.uptoBulk d ≤ 1048576) : ∃ l, Sl L w v l := by
  obtain ⟨l, v', e1, h1⟩ := arg_one ho h hb
  obtain ⟨a, n, c, rfl⟩ := okWide_slice ht hv
  simp only [Value.cells, List.cons.injEq, and_true] at e1
  subst e1
  exact ⟨l, h1⟩
open Go Go.RowKit Go.Deep Go.ChangeShapes Go.WideShapes Go.Joins


set_option maxRecDepth 100000 in
theorem o_tst : Opens Tryd.prog tstL 40 := by
  intro H enc w base spare held fuel cs x hx hb
  obtain ⟨hl, hf⟩ := field_at Tryd.underlying40 hx hb
  rw [show Tryd.prog.cellsOf 40 = 5 from by kernel_rfl] at hl
  match cs, hl with
  | [c0, c1, c2, c3, c4], _ =>
    obtain ⟨a0, e0, h0⟩ := hf (L := strL) 0 _ 1 rfl (by kernel_rfl) oStr
    have e0 : [c0] = [.string a0] := e0
    injection e0 with e0 _
    subst e0
    obtain ⟨a1, e1, h1⟩ := hf (L := intL) 1 _ 1 rfl (by kernel_rfl) oInt
    have e1 : [c1] = [.int .i64 a1] := e1
    injection e1 with e1 _
    subst e1
    obtain ⟨v, e2, h2⟩ := hf (L := valL) 2 _ 3 rfl (by kernel_rfl) o_val
    have e2 : [c2, c3, c4] = [.int .i64 v.ty, .int .i64 v.n, .string v.s] := e2
    injection e2 with e2 e3
    injection e3 with e3 e4
    injection e4 with e4 _
    subst e2; subst e3; subst e4
    exact ⟨⟨a0, a1, v⟩, rfl, h0, h1, h2⟩
theorem o_tsts : Opens Tryd.prog (slL tstL) 28 := Opens.slice Tryd.underlying28 (by kernel_rfl) (by decide) o_tst
set_option maxRecDepth 100000 in
theorem o_stp : Opens Tryd.prog stpL 30 := by
  intro H enc w base spare held fuel cs x hx hb
  obtain ⟨hl, hf⟩ := field_at Tryd.underlying30 hx hb
  rw [show Tryd.prog.cellsOf 30 = 4 from by kernel_rfl] at hl
  match cs, hl with
  | [c0, c1, c2, c3], _ =>
    obtain ⟨a0, e0, h0⟩ := hf (L := strL) 0 _ 1 rfl (by kernel_rfl) oStr
    have e0 : [c0] = [.string a0] := e0
    injection e0 with e0 _
    subst e0
    obtain ⟨a1, e1, _⟩ := hf (L := boolL) 1 _ 1 rfl (by kernel_rfl) oBool
    have e1 : [c1] = [.bool a1] := e1
    injection e1 with e1 _
    subst e1
    obtain ⟨a2, e2, h2⟩ := hf (L := strL) 2 _ 1 rfl (by kernel_rfl) oStr
    have e2 : [c2] = [.string a2] := e2
    injection e2 with e2 _
    subst e2
    obtain ⟨a3, v3, e3, h3⟩ := hf (L := slL tstL) 3 _ 1 rfl (by kernel_rfl) o_tsts
    have e3 : [c3] = [v3] := e3
    injection e3 with e3 _
    subst e3
    exact ⟨⟨a0, a1, a2, a3⟩, c3, rfl, h0, h2, h3⟩
theorem o_stps : Opens Tryd.prog (slL stpL) 24 := Opens.slice Tryd.underlying24 (by kernel_rfl) (by decide) o_stp
open Go

def laidOne : DataW Unit → Value
  | .lit (.int k z) => .int k z
  | .lit (.string b) => .string ⟨b.toArray⟩
  | _ => .int .i64 0
def laidTwo : DataW Unit → List Value
  | .agg ds => ds.map laidOne
  | d => [laidOne d]
def laidCells : DataW Unit → List Value
  | .agg ds => ds.flatMap laidTwo
  | d => [laidOne d]
/-- A row of heap objects, one variable's cells laid. -/
def layVar (h : Array Obj) (g : Nat) (d : DataW Unit) : Array Obj := h.modify g fun
  | .cells _ t frozen => .cells (laidCells d).toArray t frozen
  | o => o
/-- The same: a variable that holds an error, whose text lies in block b. -/
def layErr (h : Array Obj) (g t b : Nat) : Array Obj := h.modify g fun
  | .cells _ u frozen => .cells #[.iface t (.pointer (some ⟨b, 0, none⟩))] u frozen
  | o => o
/-- A laid array of strings holds them, cell for cell. -/
theorem strs_of_reads {P : Program} {w : World} {n : String} {g t e m : Nat} {ds : List (DataW Unit)} (hg : P.globalNamed n = some g) (ht : (P.globals[g]?).map (·.type) = some t) (hu : P.underlying t = some (.array m e)) (he : P.underlying e = some .string) (hc : P.cellsOf e = 1)
    (h : Lib.VarReads P w n (.agg ds)) (i : Nat) (hi : i < m) {b : List UInt8} (hd : ds[i]? = some (.lit (.string b))) : w.cell? ⟨g, i, none⟩ = some (.string ⟨b.toArray⟩) := by
  obtain ⟨g', t', cs, fuel, p, h1, h2, h3, h4⟩ := h
  obtain rfl := Option.some.inj (hg.symm.trans h1)
  obtain rfl := Option.some.inj (ht.symm.trans h2)
  obtain ⟨fuel', d, q, hdi, hx⟩ := Lib.array_elem hu h4 i hi
  obtain rfl := Option.some.inj (hd.symm.trans hdi)
  rw [hc] at hx
  obtain ⟨s, hs, hx2, _⟩ := DataW.trod_string he hx
  have e1 : b = s.data.toList := by injection (congrArg Prod.fst hx2) with e1; injection e1
  have e0 := congrArg (·[0]?) hs
  rw [World.var?_cell h1 h3 i, ← Array.getElem?_toList]
  simp only [List.getElem?_take, List.getElem?_drop] at e0
  rw [e1]
  simpa using e0

theorem tab_of_reads {w : World} (h : Lib.VarReads Tryd.prog w "internal/strconv.uint64pow10" Rows.laid_internal_strconv_uint64pow10) : Lib.TabIs Tryd.prog w "internal/strconv.uint64pow10" .u64 Lib.pow10Tab := by
  obtain ⟨g, t, cs, fuel, p, h1, h2, h3, h4⟩ := h
  obtain rfl := Option.some.inj ((show Tryd.prog.globalNamed "internal/strconv.uint64pow10" = some 3 by kernel_rfl).symm.trans h1)
  obtain rfl := Option.some.inj ((show (Tryd.prog.globals[3]?).map (·.type) = some 130 by kernel_rfl).symm.trans h2)
  have e := Lib.cells_of_tab (zs := Lib.pow10Tab) Tryd.underlying130 Tryd.underlying121 (by kernel_rfl) (by kernel_rfl) h4
  unfold Lib.TabIs
  rw [h3, ← e]
theorem len_of_shaped {w : World} (h : w.ShapedOpen Tryd.prog) : ∃ m, w.cell? ⟨2, 0, none⟩ = some (.int .i64 m) :=
  cell_of_shapedOpen_int (zero := #[.int .i64 0]) (t := 3) h (of_decide_eq_true (by kernel_rfl)) (by kernel_rfl) rfl (by kernel_rfl) (by kernel_rfl) Tryd.underlying3
theorem txp_of {w : World} {l : List (String × DataW Unit)} (h : laidMet Tryd.prog l w) (hs : w.ShapedOpen Tryd.prog) (h1 : ("internal/strconv.uint64pow10", Rows.laid_internal_strconv_uint64pow10) ∈ l) : TxP w :=
  ⟨len_of_shaped hs, tab_of_reads (Lib.laidMet.reads h h1)⟩
theorem iface_of_reads {w : World} {n nm : String} {g : Nat} {d : DataW Unit} (hg : Tryd.prog.globalNamed n = some g) (ht : (Tryd.prog.globals[g]?).map (·.type) = some 26) (h : Lib.VarReads Tryd.prog w n (.iface nm d)) : ∃ tp p, w.var? Tryd.prog n = some #[.iface tp p] := by
  obtain ⟨g', t, cs, fuel, p, h1, h2, h3, h4⟩ := h
  obtain rfl := Option.some.inj (hg.symm.trans h1)
  obtain rfl := Option.some.inj (ht.symm.trans h2)
  obtain ⟨_, u, v, e, _⟩ := iface_of_trod Tryd.underlying26 h4
  have e2 : cs = #[.iface u v] := by cases cs; simpa using e
  exact ⟨u, v, by rw [h3, e2]⟩
theorem txok_of {w : World} {l : List (String × DataW Unit)} (h : laidMet Tryd.prog l w) (hs : w.ShapedOpen Tryd.prog) (h1 : ("internal/strconv.uint64pow10", Rows.laid_internal_strconv_uint64pow10) ∈ l) (h2 : ("strconv.ErrSyntax", Rows.laid_strconv_ErrSyntax) ∈ l) (h3 : ("strconv.ErrRange", Rows.laid_strconv_ErrRange) ∈ l) : TxOk w where
  toTxP := txp_of h hs h1
  sy := iface_of_reads (g := 6) (by kernel_rfl) (by kernel_rfl) (Lib.laidMet.reads h h2)
  ra := iface_of_reads (g := 7) (by kernel_rfl) (by kernel_rfl) (Lib.laidMet.reads h h3)
end Go.Proofs.YtakidgndipnciaaDoor
