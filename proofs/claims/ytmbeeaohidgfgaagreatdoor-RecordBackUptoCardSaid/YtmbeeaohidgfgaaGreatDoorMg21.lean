/- Parts: RBac. -/
import Derived.Test.YtmbeeaohidgfgaaGreatDoorMg15
import Derived.Test.YtmbeeaohidgfgaaGreatDoorMg16
import Derived.Test.YtmbeeaohidgfgaaGreatDoorMg18
import Derived.Test.YtmbeeaohidgfgaaGreatDoorMg19
import Derived.Test.YtmbeeaohidgfgaaGreatDoorMg20
import Derived.Deep.DeepCutAuto
/- The law RecordBack, of the walks' contracts. Conditions: what the library's texts lean on (TxOk), the library's variable (GlobOk); the texts are not too long. -/
namespace Go.Proofs.YtmbeeaohidgfgaaGreatDoor
open Go Go.RowKit

theorem fact_set : setE [] ⟨⟨#[97]⟩, 1, 3, ⟨#[]⟩⟩ = 0 ∧ setR [] ⟨⟨#[97]⟩, 1, 3, ⟨#[]⟩⟩ = [⟨⟨#[97]⟩, 1, 3, ⟨#[]⟩⟩] := by decide +kernel
/-- A property in its box. -/
def PBox (q : Nat) (p : Prp) (w : World) : Prop := w.heap[q]? = some (.cells #[.string p.name, .int .i64 p.v.ty, .int .i64 p.v.n, .string p.v.s] 27)
theorem PBox.below {q : Nat} {p : Prp} {w w' : World} (h : PBox q p w) (hb : Below w.heap.size w w') : PBox q p w' := (hb.block _ (Array.getElem?_eq_some_iff.1 h).1).trans h
set_option maxRecDepth 100000 in
set_option maxHeartbeats 16000000 in
theorem recordBack_any (r : List Prp) (p : Prp) (name s : ByteArray) (v : Value) (w : World) (hT : TxOk w) (hG : GlobOk w) (hv : Sl prpL w v r) (hp : p.ok) (_hn : Sm name) (hs : Sm s) :
    Calls Tryz.prog 3 #[v, .agg #[.string p.name, .int .i64 p.v.ty, .int .i64 p.v.n, .string p.v.s], .string name, .string s] w fun e w' => e = .returned (.bool true) ∧ Below w.heap.size w w' := by
  obtain ⟨A0, c0, rfl, _, _⟩ := hv.form
  have hb1 : Below w.heap.size w (w.alloc (.cells #[.string p.name, .int .i64 p.v.ty, .int .i64 p.v.n, .string p.v.s] 27)) := (Below.refl _ _).alloc (Nat.le_refl _) _
  have hk1 : PBox w.heap.size p (w.alloc (.cells #[.string p.name, .int .i64 p.v.ty, .int .i64 p.v.n, .string p.v.s] 27)) := heap_alloc_new _ _
  have HV := Lib.hid hv
  have HT := Lib.hid hT
  have HG := Lib.hid hG
  -- what the functions answer here, in any world
  have HFact : Hid (∀ wx, Calls Tryz.prog 6 #[.slice none 0 0, .agg #[.string ⟨#[97]⟩, .int .i64 1, .int .i64 3, .string ⟨#[]⟩]] wx fun e w' => ∃ A k, e = .returned (.tuple #[.slice A 1 k, .nilIface]) ∧ Sl prpL w' (.slice A 1 k) [⟨⟨#[97]⟩, 1, 3, ⟨#[]⟩⟩] ∧ Below wx.heap.size wx w') := by
    intro wx
    refine (set_any [] ⟨⟨#[97]⟩, 1, 3, ⟨#[]⟩⟩ (.slice none 0 0) wx (Sl.nil 0 (Nat.zero_le _) none) ⟨by unfold Sm; show (1 : Nat) ≤ _; omega, by show I64 1; unfold I64; omega, by show I64 3; unfold I64; omega, by unfold Sm; show (0 : Nat) ≤ _; omega⟩).mono fun e w' ⟨v', he, hs', hb'⟩ => ?_
    rw [fact_set.1, errV_zero rfl] at he
    rw [fact_set.2] at hs'
    obtain ⟨A, k, rfl, _, _⟩ := hs'.form
    exact ⟨A, k, he, hs', hb'⟩
  have HPrR := Lib.hid (fun wx h1 h2 => rprint_any r (.slice A0 r.length c0) wx h1 h2)
  have HParR : Hid (recE r = 0 → ∀ wx, TxOk wx → Calls Tryz.prog 8 #[.string (bs (recT r))] wx fun e w' => ∃ A k, e = .returned (.tuple #[.slice A r.length k, .nilIface]) ∧ Sl prpL w' (.slice A r.length k) r ∧ Below wx.heap.size wx w') := by
    intro h0 wx hw
    obtain ⟨r1, r2⟩ := read_rec h0
    have hlen := rec_len h0
    have h := rparse_any (bs (recT r)) (by unfold Sm; rw [bs_size]; omega) wx hw
    rw [bs_list, r1, r2, errV_zero rfl] at h
    exact h
  have HSame := Lib.hid (fun vx wx h1 h2 => srecord_any r r vx (.slice A0 r.length c0) wx h1 h2)
  have HParS := Lib.hid (fun wx hw => rparse_any s hs wx hw)
  have HPrX : Hid (readRE s.data.toList = 0 → ∀ A k wx, TxP wx → Sl prpL wx (.slice A (readRV s.data.toList).length k) (readRV s.data.toList) → Calls Tryz.prog 7 #[.slice A (readRV s.data.toList).length k] wx fun e w' => e = .returned (.tuple #[.string s, .nilIface]) ∧ Below wx.heap.size wx w') := by
    intro h0 A k wx hw hx
    obtain ⟨r1, r2⟩ := rec_read h0
    have h := rprint_any (readRV s.data.toList) _ wx hx hw
    rw [r1, if_pos rfl, r2, bs_of, errV_zero rfl] at h
    exact h
  have HSX : Hid (setE r p = 0 → recE (setR r p) = 0 ∧ getE (setR r p) p.name = 0 ∧ getV (setR r p) p.name = p.v ∧ (name ≠ p.name → getV r name = getV (setR r p) name ∧ (getE r name = 0 ↔ getE (setR r p) name = 0)) ∧ unsetE (setR r p) p.name = 0 ∧ getE (unsetR (setR r p) p.name) p.name = 5 ∧ (unsetR (setR r p) p.name).length + 1 = (setR r p).length) := fun h =>
    ⟨(set_back h).1, (set_back h).2.1, (set_back h).2.2, fun hn => set_else h hn, (unset_back h).1, (unset_back h).2.1, (unset_back h).2.2⟩
  have HSetR : Hid (∀ wx, Sl prpL wx (.slice A0 r.length c0) r → Calls Tryz.prog 6 #[.slice A0 r.length c0, .agg #[.string p.name, .int .i64 p.v.ty, .int .i64 p.v.n, .string p.v.s]] wx fun e w' => ∃ v, e = .returned (.tuple #[v, errV (setE r p)]) ∧ Sl prpL w' v (setR r p) ∧ Below wx.heap.size wx w') := fun wx h => set_any r p (.slice A0 r.length c0) wx h hp
  generalize setE r p = SE at *
  generalize setR r p = X at *
  have HGetR := Lib.hid (fun wx h => get_any r name (.slice A0 r.length c0) wx h)
  clear hT hG hv hp hs
  go_enter Tryz.func3, Tryz.ntmps3
  go_upto_region 1 with fail
  generalize w.alloc (.cells #[.string p.name, .int .i64 p.v.ty, .int .i64 p.v.n, .string p.v.s] 27) = W1 at *
  have ha2 : Below W1.heap.size W1 (W1.alloc (.cells #[.string ⟨#[97]⟩, .int .i64 1, .int .i64 3, .string ⟨#[]⟩] 27)) := (Below.refl _ _).alloc (Nat.le_refl _) _
  have hk2 := heap_alloc_new W1 (.cells #[.string ⟨#[97]⟩, .int .i64 1, .int .i64 3, .string ⟨#[]⟩] 27)
  have hB2 := hb1.trans (ha2.mono hb1.size)
  have HBX2 := Lib.hid (hk1.below ha2)
  have hx := HFact.out (W1.alloc (.cells #[.string ⟨#[97]⟩, .int .i64 1, .int .i64 3, .string ⟨#[]⟩] 27))
  clear hk1 HFact ha2 hb1
  go_upto_region 2 with fail
  generalize W1.alloc (.cells #[.string ⟨#[97]⟩, .int .i64 1, .int .i64 3, .string ⟨#[]⟩] 27) = W2 at *
  have y0 := block_cell hk2 0
  have y1 := block_cell hk2 1
  have y2 := block_cell hk2 2
  have y3 := block_cell hk2 3
  go_wp2_with fail
  refine hx.mono ?_
  clear hx
  rintro e w3 ⟨AF, kF, rfl, hsF, hb3⟩
  have y0 := cell_below hb3 y0
  have y1 := cell_below hb3 y1
  have y2 := cell_below hb3 y2
  have y3 := cell_below hb3 y3
  obtain ⟨gF, oF, rfl, _, f0, f1, f2, f3⟩ := prp_at hsF (k := 0) rfl
  rw [Nat.zero_mul, Nat.add_zero] at f0 f1 f2 f3
  have HBX3 := Lib.hid (HBX2.out.below hb3)
  have hB3 := hB2.trans (hb3.mono hB2.size)
  clear HBX2 hB2 hb3 hsF hk2
  go_wp2_with fail
  go_quiet (fail)
  go_upto_region 5 with fail
  have hq3 := below_drewN (Below.refl w3.heap.size w3) nq
  have HBX4 := Lib.hid (HBX3.out.below hq3)
  have hB4 := hB3.trans (hq3.mono hB3.size)
  generalize w3.drewN nq = w4 at *
  have hx := HPrR.out w4 (HV.out.below hB4) (HT.out.below hB4).toTxP
  clear y0 y1 y2 y3 f0 f1 f2 f3 hq3 HBX3 hB3 HPrR
  obtain ⟨E, hE⟩ : ∃ E, E = recE r := ⟨_, rfl⟩
  rw [← hE] at hx
  have HEE := Lib.hid hE
  clear hE
  go_wp2_with fail
  refine hx.mono ?_
  clear hx
  rintro e w4a ⟨rfl, hb4a⟩
  have HBX4a := Lib.hid (HBX4.out.below hb4a)
  have hB4a := hB4.trans (hb4a.mono hB4.size)
  clear HBX4 hB4 hb4a
  by_cases hz : E = 0
  · have hp := HParR.out (by rw [← HEE.out]; exact hz) w4a (HT.out.below hB4a)
    rw [errV_zero hz, if_pos hz]
    clear hz HParR HEE
    go_wp2_with fail
    refine hp.mono ?_
    clear hp
    rintro e w4b ⟨AR, kR, rfl, hsR, hb4b⟩
    have HBX4b := Lib.hid (HBX4a.out.below hb4b)
    have hB4b := hB4a.trans (hb4b.mono hB4a.size)
    have hx := HSame.out (.slice AR r.length kR) w4b hsR (HV.out.below hB4b)
    simp only [decide_true] at hx
    clear HBX4a hB4a hsR hb4b HSame
    go_wp2_with fail
    refine hx.mono ?_
    clear hx
    rintro e w5 ⟨rfl, hb5⟩
    have HBX5 := Lib.hid (HBX4b.out.below hb5)
    have hB5 := hB4b.trans (hb5.mono hB4b.size)
    clear HBX4b hB4b hb5
    -- behind the first reading: the world is w5; HBX5, hB5
    have hx := HParS.out w5 (HT.out.below hB5)
    go_wp2_with fail
    refine hx.mono ?_
    clear hx
    rintro e w6 ⟨AX, kx, rfl, hsx, hb6⟩
    have HBX6 := Lib.hid (HBX5.out.below hb6)
    have hB6 := hB5.trans (hb6.mono hB5.size)
    clear HBX5 hB5 hb6 HParS
    obtain ⟨RE, hRE⟩ : ∃ RE, RE = readRE s.data.toList := ⟨_, rfl⟩
    have HRE := Lib.hid hRE
    rw [← hRE]
    clear hRE
    by_cases hr : RE = 0
    · have hx := HPrX.out (by rw [← HRE.out]; exact hr) AX kx w6 (HT.out.below hB6).toTxP hsx
      rw [errV_zero hr]
      generalize readRV s.data.toList = RX at *
      clear hr hsx HRE
      go_wp2_with fail
      refine hx.mono ?_
      clear hx
      rintro e w8 ⟨rfl, hb8⟩
      have HBX8 := Lib.hid (HBX6.out.below hb8)
      have hB8 := hB6.trans (hb8.mono hB6.size)
      have hss : (!s.toList == s.toList) = false := by simp
      clear HBX6 hB6 hb8 HPrX
      -- the rest, behind both readings: the world is w8; HBX8, hB8
      have hBx := HBX8.out
      have x0 := block_cell hBx 0
      have x1 := block_cell hBx 1
      have x2 := block_cell hBx 2
      have x3 := block_cell hBx 3
      have hx := HSetR.out w8 (HV.out.below hB8)
      clear hBx
      go_wp2_with fail
      refine hx.mono ?_
      clear hx x0 x1 x2 x3
      rintro e w9 ⟨vX, rfl, hsX, hb9⟩
      have HBX9 := Lib.hid (HBX8.out.below hb9)
      have hB9 := hB8.trans (hb9.mono hB8.size)
      clear HBX8 hB8 hb9
      by_cases hz : SE = 0
      case neg =>
        rw [errV_some hz]
        clear hz hsX HSX
        go_wp2_with fail
        go_ret
        exact ⟨rfl, hB9⟩
      rw [errV_zero hz]
      obtain ⟨c1, c2, c3, c4, c5, c6, c7⟩ := HSX.out hz
      have C4 := Lib.hid c4
      have C1 := Lib.hid c1
      have C7 := Lib.hid c7
      obtain ⟨AX9, kX9, rfl, _, _⟩ := hsX.form
      have HSX9 := Lib.hid hsX
      have hx := get_any X p.name _ w9 hsX
      rw [c2, c3, errV_zero rfl] at hx
      have hBx := HBX9.out
      have x0 := block_cell hBx 0
      have x1 := block_cell hBx 1
      have x2 := block_cell hBx 2
      have x3 := block_cell hBx 3
      clear hz hsX HSX hBx c1 c2 c3 c4 c7
      go_wp2_with fail
      refine hx.mono ?_
      clear hx x0 x1 x2 x3
      rintro e w10 ⟨rfl, hb10⟩
      have ha10 := (Below.refl w10.heap.size w10).alloc (Nat.le_refl _) (.cells #[.int .i64 p.v.ty, .int .i64 p.v.n, .string p.v.s] 25)
      have hb11 := hb10.trans (ha10.mono hb10.size)
      have HBX11 := Lib.hid (HBX9.out.below hb11)
      have HSX11 := Lib.hid (HSX9.out.below hb11)
      have hB11 := hB9.trans (hb11.mono hB9.size)
      have hk20 := heap_alloc_new w10 (.cells #[.int .i64 p.v.ty, .int .i64 p.v.n, .string p.v.s] 25)
      clear HBX9 HSX9 hB9 hb10 hb11 ha10
      go_upto_region 20 with fail
      generalize w10.alloc (.cells #[.int .i64 p.v.ty, .int .i64 p.v.n, .string p.v.s] 25) = w11 at *
      have z0 := block_cell hk20 0
      have z1 := block_cell hk20 1
      have z2 := block_cell hk20 2
      have hBx := HBX11.out
      have x0 := block_cell hBx 0
      have x1 := block_cell hBx 1
      have x2 := block_cell hBx 2
      have x3 := block_cell hBx 3
      have hx := recCheck_any X _ w11 HSX11.out
      rw [C1.out, errV_zero rfl] at hx
      clear hBx hk20
      go_wp2_with fail
      refine hx.mono ?_
      clear hx x0 x1 x2 x3 z0 z1 z2
      rintro e w12 ⟨rfl, hb12⟩
      have HBX12 := Lib.hid (HBX11.out.below hb12)
      have HSX12 := Lib.hid (HSX11.out.below hb12)
      have hB12 := hB11.trans (hb12.mono hB11.size)
      clear HBX11 HSX11 hB11 hb12
      have hx := HGetR.out w12 (HV.out.below hB12)
      have hGX := Lib.hid (fun wx h => get_any X name (.slice AX9 X.length kX9) wx h)
      obtain ⟨e1, he1⟩ : ∃ e1, e1 = getE r name := ⟨_, rfl⟩
      obtain ⟨e2, he2⟩ : ∃ e2, e2 = getE X name := ⟨_, rfl⟩
      rw [← he1, ← he2] at C4
      rw [← he1] at hx
      rw [← he2] at hGX
      generalize getV r name = gr at *
      generalize getV X name = gx at *
      obtain ⟨grt, grn, grs⟩ := gr
      obtain ⟨gxt, gxn, gxs⟩ := gx
      clear he1 he2 HGetR
      go_wp2_with fail
      refine hx.mono ?_
      clear hx
      rintro e w13 ⟨rfl, hb13⟩
      have ha13 := (Below.refl w13.heap.size w13).alloc (Nat.le_refl _) (.cells #[.int .i64 grt, .int .i64 grn, .string grs] 25)
      have hb14 := hb13.trans (ha13.mono hb13.size)
      have HBX14 := Lib.hid (HBX12.out.below hb14)
      have HSX14 := Lib.hid (HSX12.out.below hb14)
      have hB14 := hB12.trans (hb14.mono hB12.size)
      have hk22 := heap_alloc_new w13 (.cells #[.int .i64 grt, .int .i64 grn, .string grs] 25)
      clear HBX12 HSX12 hB12 hb13 hb14 ha13
      go_upto_region 23 with fail
      generalize w13.alloc (.cells #[.int .i64 grt, .int .i64 grn, .string grs] 25) = w14 at *
      have hx := hGX.out w14 HSX14.out
      clear hGX
      go_wp2_with fail
      refine hx.mono ?_
      clear hx
      rintro e w15 ⟨rfl, hb15⟩
      have ha15 := (Below.refl w15.heap.size w15).alloc (Nat.le_refl _) (.cells #[.int .i64 gxt, .int .i64 gxn, .string gxs] 25)
      have hb16 := hb15.trans (ha15.mono hb15.size)
      have HBX16 := Lib.hid (HBX14.out.below hb16)
      have HSX16 := Lib.hid (HSX14.out.below hb16)
      have hB16 := hB14.trans (hb16.mono hB14.size)
      have hk24 := heap_alloc_new w15 (.cells #[.int .i64 gxt, .int .i64 gxn, .string gxs] 25)
      have hk22 := (hb16.block _ (Array.getElem?_eq_some_iff.1 hk22).1).trans hk22
      clear HBX14 HSX14 hB14 hb15 hb16 ha15
      go_upto_region 24 with fail
      generalize w15.alloc (.cells #[.int .i64 gxt, .int .i64 gxn, .string gxs] 25) = w16 at *
      have hBx := HBX16.out
      have x0 := block_cell hBx 0
      have x1 := block_cell hBx 1
      have x2 := block_cell hBx 2
      have x3 := block_cell hBx 3
      have u0 := block_cell hk22 0
      have u1 := block_cell hk22 1
      have u2 := block_cell hk22 2
      have v0 := block_cell hk24 0
      have v1 := block_cell hk24 1
      have v2 := block_cell hk24 2
      clear hBx hk22 hk24
      by_cases hn : name = p.name
      · have hnb : (!name.toList == p.name.toList) = false := by rw [hn]; simp
        clear hn
        go_quiet (fail)
        go_upto_region 26 with fail
        have hq16 := below_drewN (Below.refl w16.heap.size w16) nq
        have HBX17 := Lib.hid (HBX16.out.below hq16)
        have hB17 := hB16.trans (hq16.mono hB16.size)
        have hx := unset_own X p.name _ (w16.drewN nq) (HSX16.out.below hq16)
        rw [c5] at hx
        generalize w16.drewN nq = w17 at *
        have hBx := HBX17.out
        clear HBX16 HSX16 hB16 hq16 x0 x1 x2 x3 u0 u1 u2 v0 v1 v2
        have x0 := block_cell hBx 0
        have x1 := block_cell hBx 1
        have x2 := block_cell hBx 2
        have x3 := block_cell hBx 3
        clear hBx
        go_wp2_with fail
        refine hx.mono ?_
        clear hx x0 x1 x2 x3
        intro e w18 hret
        obtain ⟨vY, rfl, hsY, hb18⟩ := hret.r
        rw [errV_zero rfl]
        have HBX18 := Lib.hid (HBX17.out.below hb18)
        have hB18 := hB17.trans (hb18.mono hB17.size)
        obtain ⟨AY, kY, rfl, _, _⟩ := hsY.form
        have hx := get_any (unsetR X p.name) p.name _ w18 hsY
        rw [c6, errV_some (show (5 : Int) ≠ 0 by decide)] at hx
        generalize getV (unsetR X p.name) p.name = gy at *
        obtain ⟨gyt, gyn, gys⟩ := gy
        have hBx := HBX18.out
        have x0 := block_cell hBx 0
        have x1 := block_cell hBx 1
        have x2 := block_cell hBx 2
        have x3 := block_cell hBx 3
        generalize hYL : (unsetR X p.name).length = yl at *
        have hyl := C7.out
        have HYL := Lib.hid hYL
        clear hBx HBX17 hB17 hb18 hsY hret C7 hYL
        go_wp2_with fail
        refine hx.mono ?_
        clear hx x0 x1 x2 x3
        rintro e w19 ⟨rfl, hb19⟩
        have ha19 := (Below.refl w19.heap.size w19).alloc (Nat.le_refl _) (.cells #[.int .i64 gyt, .int .i64 gyn, .string gys] 25)
        have hb20 := hb19.trans (ha19.mono hb19.size)
        have hB20 := hB18.trans (hb20.mono hB18.size)
        clear HBX18 hB18 hb19 hb20 ha19
        go_upto_region 28 with fail
        generalize w19.alloc (.cells #[.int .i64 gyt, .int .i64 gyn, .string gys] 25) = w20 at *
        have hx := same_any 5 5 w20 (GlobOk.below hB20 HG.out)
        rw [errV_some (show (5 : Int) ≠ 0 by decide)] at hx
        go_wp2_with fail
        refine hx.mono ?_
        clear hx
        rintro e w21 ⟨rfl, hb21⟩
        have hX8 : X.length ≤ 8 := (rec_ok C1.out).1
        have hX1 : (1 : Int) ≤ (X.length : Int) := by omega
        go_wp2_with fail
        go_ret
        exact ⟨by simp; omega, hB20.trans (hb21.mono hB20.size)⟩
      · have hnb : (!name.toList == p.name.toList) = true := by
          rw [Bool.not_eq_true', beq_eq_false_iff_ne]
          intro e
          rw [bytes_eq] at e
          exact hn e
        obtain ⟨g1, g2⟩ := C4.out hn
        injection g1 with g3 g4 g5
        subst g3
        subst g4
        subst g5
        clear hn
        by_cases hz1 : e1 = 0
        · rw [errV_zero hz1, errV_zero (g2.1 hz1)]
          clear hz1 g2 C4
          go_quiet (fail)
          go_upto_region 26 with fail
          have hq16 := below_drewN (Below.refl w16.heap.size w16) nq
          have HBX17 := Lib.hid (HBX16.out.below hq16)
          have hB17 := hB16.trans (hq16.mono hB16.size)
          have hx := unset_own X p.name _ (w16.drewN nq) (HSX16.out.below hq16)
          rw [c5] at hx
          generalize w16.drewN nq = w17 at *
          have hBx := HBX17.out
          clear HBX16 HSX16 hB16 hq16 x0 x1 x2 x3 u0 u1 u2 v0 v1 v2
          have x0 := block_cell hBx 0
          have x1 := block_cell hBx 1
          have x2 := block_cell hBx 2
          have x3 := block_cell hBx 3
          clear hBx
          go_wp2_with fail
          refine hx.mono ?_
          clear hx x0 x1 x2 x3
          intro e w18 hret
          obtain ⟨vY, rfl, hsY, hb18⟩ := hret.r
          rw [errV_zero rfl]
          have HBX18 := Lib.hid (HBX17.out.below hb18)
          have hB18 := hB17.trans (hb18.mono hB17.size)
          obtain ⟨AY, kY, rfl, _, _⟩ := hsY.form
          have hx := get_any (unsetR X p.name) p.name _ w18 hsY
          rw [c6, errV_some (show (5 : Int) ≠ 0 by decide)] at hx
          generalize getV (unsetR X p.name) p.name = gy at *
          obtain ⟨gyt, gyn, gys⟩ := gy
          have hBx := HBX18.out
          have x0 := block_cell hBx 0
          have x1 := block_cell hBx 1
          have x2 := block_cell hBx 2
          have x3 := block_cell hBx 3
          generalize hYL : (unsetR X p.name).length = yl at *
          have hyl := C7.out
          have HYL := Lib.hid hYL
          clear hBx HBX17 hB17 hb18 hsY hret C7 hYL
          go_wp2_with fail
          refine hx.mono ?_
          clear hx x0 x1 x2 x3
          rintro e w19 ⟨rfl, hb19⟩
          have ha19 := (Below.refl w19.heap.size w19).alloc (Nat.le_refl _) (.cells #[.int .i64 gyt, .int .i64 gyn, .string gys] 25)
          have hb20 := hb19.trans (ha19.mono hb19.size)
          have hB20 := hB18.trans (hb20.mono hB18.size)
          clear HBX18 hB18 hb19 hb20 ha19
          go_upto_region 28 with fail
          generalize w19.alloc (.cells #[.int .i64 gyt, .int .i64 gyn, .string gys] 25) = w20 at *
          have hx := same_any 5 5 w20 (GlobOk.below hB20 HG.out)
          rw [errV_some (show (5 : Int) ≠ 0 by decide)] at hx
          go_wp2_with fail
          refine hx.mono ?_
          clear hx
          rintro e w21 ⟨rfl, hb21⟩
          have hX8 : X.length ≤ 8 := (rec_ok C1.out).1
          have hX1 : (1 : Int) ≤ (X.length : Int) := by omega
          go_wp2_with fail
          go_ret
          exact ⟨by simp; omega, hB20.trans (hb21.mono hB20.size)⟩
        · have hz2 : e2 ≠ 0 := fun e => hz1 (g2.2 e)
          rw [errV_some hz1, errV_some hz2]
          clear hz1 hz2 g2 C4
          go_quiet (fail)
          go_upto_region 26 with fail
          have hq16 := below_drewN (Below.refl w16.heap.size w16) nq
          have HBX17 := Lib.hid (HBX16.out.below hq16)
          have hB17 := hB16.trans (hq16.mono hB16.size)
          have hx := unset_own X p.name _ (w16.drewN nq) (HSX16.out.below hq16)
          rw [c5] at hx
          generalize w16.drewN nq = w17 at *
          have hBx := HBX17.out
          clear HBX16 HSX16 hB16 hq16 x0 x1 x2 x3 u0 u1 u2 v0 v1 v2
          have x0 := block_cell hBx 0
          have x1 := block_cell hBx 1
          have x2 := block_cell hBx 2
          have x3 := block_cell hBx 3
          clear hBx
          go_wp2_with fail
          refine hx.mono ?_
          clear hx x0 x1 x2 x3
          intro e w18 hret
          obtain ⟨vY, rfl, hsY, hb18⟩ := hret.r
          rw [errV_zero rfl]
          have HBX18 := Lib.hid (HBX17.out.below hb18)
          have hB18 := hB17.trans (hb18.mono hB17.size)
          obtain ⟨AY, kY, rfl, _, _⟩ := hsY.form
          have hx := get_any (unsetR X p.name) p.name _ w18 hsY
          rw [c6, errV_some (show (5 : Int) ≠ 0 by decide)] at hx
          generalize getV (unsetR X p.name) p.name = gy at *
          obtain ⟨gyt, gyn, gys⟩ := gy
          have hBx := HBX18.out
          have x0 := block_cell hBx 0
          have x1 := block_cell hBx 1
          have x2 := block_cell hBx 2
          have x3 := block_cell hBx 3
          generalize hYL : (unsetR X p.name).length = yl at *
          have hyl := C7.out
          have HYL := Lib.hid hYL
          clear hBx HBX17 hB17 hb18 hsY hret C7 hYL
          go_wp2_with fail
          refine hx.mono ?_
          clear hx x0 x1 x2 x3
          rintro e w19 ⟨rfl, hb19⟩
          have ha19 := (Below.refl w19.heap.size w19).alloc (Nat.le_refl _) (.cells #[.int .i64 gyt, .int .i64 gyn, .string gys] 25)
          have hb20 := hb19.trans (ha19.mono hb19.size)
          have hB20 := hB18.trans (hb20.mono hB18.size)
          clear HBX18 hB18 hb19 hb20 ha19
          go_upto_region 28 with fail
          generalize w19.alloc (.cells #[.int .i64 gyt, .int .i64 gyn, .string gys] 25) = w20 at *
          have hx := same_any 5 5 w20 (GlobOk.below hB20 HG.out)
          rw [errV_some (show (5 : Int) ≠ 0 by decide)] at hx
          go_wp2_with fail
          refine hx.mono ?_
          clear hx
          rintro e w21 ⟨rfl, hb21⟩
          have hX8 : X.length ≤ 8 := (rec_ok C1.out).1
          have hX1 : (1 : Int) ≤ (X.length : Int) := by omega
          go_wp2_with fail
          go_ret
          exact ⟨by simp; omega, hB20.trans (hb21.mono hB20.size)⟩
    · rw [errV_some hr]
      generalize readRV s.data.toList = RX at *
      have HBX8 := HBX6
      have hB8 := hB6
      obtain ⟨w8, hw8⟩ : ∃ w8 : World, w8 = w6 := ⟨_, rfl⟩
      rw [← hw8] at HBX8 hB8 ⊢
      clear hr hsx HRE HBX6 hB6 HPrX hw8
      -- the rest, behind both readings: the world is w8; HBX8, hB8
      have hBx := HBX8.out
      have x0 := block_cell hBx 0
      have x1 := block_cell hBx 1
      have x2 := block_cell hBx 2
      have x3 := block_cell hBx 3
      have hx := HSetR.out w8 (HV.out.below hB8)
      clear hBx
      go_wp2_with fail
      refine hx.mono ?_
      clear hx x0 x1 x2 x3
      rintro e w9 ⟨vX, rfl, hsX, hb9⟩
      have HBX9 := Lib.hid (HBX8.out.below hb9)
      have hB9 := hB8.trans (hb9.mono hB8.size)
      clear HBX8 hB8 hb9
      by_cases hz : SE = 0
      case neg =>
        rw [errV_some hz]
        clear hz hsX HSX
        go_wp2_with fail
        go_ret
        exact ⟨rfl, hB9⟩
      rw [errV_zero hz]
      obtain ⟨c1, c2, c3, c4, c5, c6, c7⟩ := HSX.out hz
      have C4 := Lib.hid c4
      have C1 := Lib.hid c1
      have C7 := Lib.hid c7
      obtain ⟨AX9, kX9, rfl, _, _⟩ := hsX.form
      have HSX9 := Lib.hid hsX
      have hx := get_any X p.name _ w9 hsX
      rw [c2, c3, errV_zero rfl] at hx
      have hBx := HBX9.out
      have x0 := block_cell hBx 0
      have x1 := block_cell hBx 1
      have x2 := block_cell hBx 2
      have x3 := block_cell hBx 3
      clear hz hsX HSX hBx c1 c2 c3 c4 c7
      go_wp2_with fail
      refine hx.mono ?_
      clear hx x0 x1 x2 x3
      rintro e w10 ⟨rfl, hb10⟩
      have ha10 := (Below.refl w10.heap.size w10).alloc (Nat.le_refl _) (.cells #[.int .i64 p.v.ty, .int .i64 p.v.n, .string p.v.s] 25)
      have hb11 := hb10.trans (ha10.mono hb10.size)
      have HBX11 := Lib.hid (HBX9.out.below hb11)
      have HSX11 := Lib.hid (HSX9.out.below hb11)
      have hB11 := hB9.trans (hb11.mono hB9.size)
      have hk20 := heap_alloc_new w10 (.cells #[.int .i64 p.v.ty, .int .i64 p.v.n, .string p.v.s] 25)
      clear HBX9 HSX9 hB9 hb10 hb11 ha10
      go_upto_region 20 with fail
      generalize w10.alloc (.cells #[.int .i64 p.v.ty, .int .i64 p.v.n, .string p.v.s] 25) = w11 at *
      have z0 := block_cell hk20 0
      have z1 := block_cell hk20 1
      have z2 := block_cell hk20 2
      have hBx := HBX11.out
      have x0 := block_cell hBx 0
      have x1 := block_cell hBx 1
      have x2 := block_cell hBx 2
      have x3 := block_cell hBx 3
      have hx := recCheck_any X _ w11 HSX11.out
      rw [C1.out, errV_zero rfl] at hx
      clear hBx hk20
      go_wp2_with fail
      refine hx.mono ?_
      clear hx x0 x1 x2 x3 z0 z1 z2
      rintro e w12 ⟨rfl, hb12⟩
      have HBX12 := Lib.hid (HBX11.out.below hb12)
      have HSX12 := Lib.hid (HSX11.out.below hb12)
      have hB12 := hB11.trans (hb12.mono hB11.size)
      clear HBX11 HSX11 hB11 hb12
      have hx := HGetR.out w12 (HV.out.below hB12)
      have hGX := Lib.hid (fun wx h => get_any X name (.slice AX9 X.length kX9) wx h)
      obtain ⟨e1, he1⟩ : ∃ e1, e1 = getE r name := ⟨_, rfl⟩
      obtain ⟨e2, he2⟩ : ∃ e2, e2 = getE X name := ⟨_, rfl⟩
      rw [← he1, ← he2] at C4
      rw [← he1] at hx
      rw [← he2] at hGX
      generalize getV r name = gr at *
      generalize getV X name = gx at *
      obtain ⟨grt, grn, grs⟩ := gr
      obtain ⟨gxt, gxn, gxs⟩ := gx
      clear he1 he2 HGetR
      go_wp2_with fail
      refine hx.mono ?_
      clear hx
      rintro e w13 ⟨rfl, hb13⟩
      have ha13 := (Below.refl w13.heap.size w13).alloc (Nat.le_refl _) (.cells #[.int .i64 grt, .int .i64 grn, .string grs] 25)
      have hb14 := hb13.trans (ha13.mono hb13.size)
      have HBX14 := Lib.hid (HBX12.out.below hb14)
      have HSX14 := Lib.hid (HSX12.out.below hb14)
      have hB14 := hB12.trans (hb14.mono hB12.size)
      have hk22 := heap_alloc_new w13 (.cells #[.int .i64 grt, .int .i64 grn, .string grs] 25)
      clear HBX12 HSX12 hB12 hb13 hb14 ha13
      go_upto_region 23 with fail
      generalize w13.alloc (.cells #[.int .i64 grt, .int .i64 grn, .string grs] 25) = w14 at *
      have hx := hGX.out w14 HSX14.out
      clear hGX
      go_wp2_with fail
      refine hx.mono ?_
      clear hx
      rintro e w15 ⟨rfl, hb15⟩
      have ha15 := (Below.refl w15.heap.size w15).alloc (Nat.le_refl _) (.cells #[.int .i64 gxt, .int .i64 gxn, .string gxs] 25)
      have hb16 := hb15.trans (ha15.mono hb15.size)
      have HBX16 := Lib.hid (HBX14.out.below hb16)
      have HSX16 := Lib.hid (HSX14.out.below hb16)
      have hB16 := hB14.trans (hb16.mono hB14.size)
      have hk24 := heap_alloc_new w15 (.cells #[.int .i64 gxt, .int .i64 gxn, .string gxs] 25)
      have hk22 := (hb16.block _ (Array.getElem?_eq_some_iff.1 hk22).1).trans hk22
      clear HBX14 HSX14 hB14 hb15 hb16 ha15
      go_upto_region 24 with fail
      generalize w15.alloc (.cells #[.int .i64 gxt, .int .i64 gxn, .string gxs] 25) = w16 at *
      have hBx := HBX16.out
      have x0 := block_cell hBx 0
      have x1 := block_cell hBx 1
      have x2 := block_cell hBx 2
      have x3 := block_cell hBx 3
      have u0 := block_cell hk22 0
      have u1 := block_cell hk22 1
      have u2 := block_cell hk22 2
      have v0 := block_cell hk24 0
      have v1 := block_cell hk24 1
      have v2 := block_cell hk24 2
      clear hBx hk22 hk24
      by_cases hn : name = p.name
      · have hnb : (!name.toList == p.name.toList) = false := by rw [hn]; simp
        clear hn
        go_quiet (fail)
        go_upto_region 26 with fail
        have hq16 := below_drewN (Below.refl w16.heap.size w16) nq
        have HBX17 := Lib.hid (HBX16.out.below hq16)
        have hB17 := hB16.trans (hq16.mono hB16.size)
        have hx := unset_own X p.name _ (w16.drewN nq) (HSX16.out.below hq16)
        rw [c5] at hx
        generalize w16.drewN nq = w17 at *
        have hBx := HBX17.out
        clear HBX16 HSX16 hB16 hq16 x0 x1 x2 x3 u0 u1 u2 v0 v1 v2
        have x0 := block_cell hBx 0
        have x1 := block_cell hBx 1
        have x2 := block_cell hBx 2
        have x3 := block_cell hBx 3
        clear hBx
        go_wp2_with fail
        refine hx.mono ?_
        clear hx x0 x1 x2 x3
        intro e w18 hret
        obtain ⟨vY, rfl, hsY, hb18⟩ := hret.r
        rw [errV_zero rfl]
        have HBX18 := Lib.hid (HBX17.out.below hb18)
        have hB18 := hB17.trans (hb18.mono hB17.size)
        obtain ⟨AY, kY, rfl, _, _⟩ := hsY.form
        have hx := get_any (unsetR X p.name) p.name _ w18 hsY
        rw [c6, errV_some (show (5 : Int) ≠ 0 by decide)] at hx
        generalize getV (unsetR X p.name) p.name = gy at *
        obtain ⟨gyt, gyn, gys⟩ := gy
        have hBx := HBX18.out
        have x0 := block_cell hBx 0
        have x1 := block_cell hBx 1
        have x2 := block_cell hBx 2
        have x3 := block_cell hBx 3
        generalize hYL : (unsetR X p.name).length = yl at *
        have hyl := C7.out
        have HYL := Lib.hid hYL
        clear hBx HBX17 hB17 hb18 hsY hret C7 hYL
        go_wp2_with fail
        refine hx.mono ?_
        clear hx x0 x1 x2 x3
        rintro e w19 ⟨rfl, hb19⟩
        have ha19 := (Below.refl w19.heap.size w19).alloc (Nat.le_refl _) (.cells #[.int .i64 gyt, .int .i64 gyn, .string gys] 25)
        have hb20 := hb19.trans (ha19.mono hb19.size)
        have hB20 := hB18.trans (hb20.mono hB18.size)
        clear HBX18 hB18 hb19 hb20 ha19
        go_upto_region 28 with fail
        generalize w19.alloc (.cells #[.int .i64 gyt, .int .i64 gyn, .string gys] 25) = w20 at *
        have hx := same_any 5 5 w20 (GlobOk.below hB20 HG.out)
        rw [errV_some (show (5 : Int) ≠ 0 by decide)] at hx
        go_wp2_with fail
        refine hx.mono ?_
        clear hx
        rintro e w21 ⟨rfl, hb21⟩
        have hX8 : X.length ≤ 8 := (rec_ok C1.out).1
        have hX1 : (1 : Int) ≤ (X.length : Int) := by omega
        go_wp2_with fail
        go_ret
        exact ⟨by simp; omega, hB20.trans (hb21.mono hB20.size)⟩
      · have hnb : (!name.toList == p.name.toList) = true := by
          rw [Bool.not_eq_true', beq_eq_false_iff_ne]
          intro e
          rw [bytes_eq] at e
          exact hn e
        obtain ⟨g1, g2⟩ := C4.out hn
        injection g1 with g3 g4 g5
        subst g3
        subst g4
        subst g5
        clear hn
        by_cases hz1 : e1 = 0
        · rw [errV_zero hz1, errV_zero (g2.1 hz1)]
          clear hz1 g2 C4
          go_quiet (fail)
          go_upto_region 26 with fail
          have hq16 := below_drewN (Below.refl w16.heap.size w16) nq
          have HBX17 := Lib.hid (HBX16.out.below hq16)
          have hB17 := hB16.trans (hq16.mono hB16.size)
          have hx := unset_own X p.name _ (w16.drewN nq) (HSX16.out.below hq16)
          rw [c5] at hx
          generalize w16.drewN nq = w17 at *
          have hBx := HBX17.out
          clear HBX16 HSX16 hB16 hq16 x0 x1 x2 x3 u0 u1 u2 v0 v1 v2
          have x0 := block_cell hBx 0
          have x1 := block_cell hBx 1
          have x2 := block_cell hBx 2
          have x3 := block_cell hBx 3
          clear hBx
          go_wp2_with fail
          refine hx.mono ?_
          clear hx x0 x1 x2 x3
          intro e w18 hret
          obtain ⟨vY, rfl, hsY, hb18⟩ := hret.r
          rw [errV_zero rfl]
          have HBX18 := Lib.hid (HBX17.out.below hb18)
          have hB18 := hB17.trans (hb18.mono hB17.size)
          obtain ⟨AY, kY, rfl, _, _⟩ := hsY.form
          have hx := get_any (unsetR X p.name) p.name _ w18 hsY
          rw [c6, errV_some (show (5 : Int) ≠ 0 by decide)] at hx
          generalize getV (unsetR X p.name) p.name = gy at *
          obtain ⟨gyt, gyn, gys⟩ := gy
          have hBx := HBX18.out
          have x0 := block_cell hBx 0
          have x1 := block_cell hBx 1
          have x2 := block_cell hBx 2
          have x3 := block_cell hBx 3
          generalize hYL : (unsetR X p.name).length = yl at *
          have hyl := C7.out
          have HYL := Lib.hid hYL
          clear hBx HBX17 hB17 hb18 hsY hret C7 hYL
          go_wp2_with fail
          refine hx.mono ?_
          clear hx x0 x1 x2 x3
          rintro e w19 ⟨rfl, hb19⟩
          have ha19 := (Below.refl w19.heap.size w19).alloc (Nat.le_refl _) (.cells #[.int .i64 gyt, .int .i64 gyn, .string gys] 25)
          have hb20 := hb19.trans (ha19.mono hb19.size)
          have hB20 := hB18.trans (hb20.mono hB18.size)
          clear HBX18 hB18 hb19 hb20 ha19
          go_upto_region 28 with fail
          generalize w19.alloc (.cells #[.int .i64 gyt, .int .i64 gyn, .string gys] 25) = w20 at *
          have hx := same_any 5 5 w20 (GlobOk.below hB20 HG.out)
          rw [errV_some (show (5 : Int) ≠ 0 by decide)] at hx
          go_wp2_with fail
          refine hx.mono ?_
          clear hx
          rintro e w21 ⟨rfl, hb21⟩
          have hX8 : X.length ≤ 8 := (rec_ok C1.out).1
          have hX1 : (1 : Int) ≤ (X.length : Int) := by omega
          go_wp2_with fail
          go_ret
          exact ⟨by simp; omega, hB20.trans (hb21.mono hB20.size)⟩
        · have hz2 : e2 ≠ 0 := fun e => hz1 (g2.2 e)
          rw [errV_some hz1, errV_some hz2]
          clear hz1 hz2 g2 C4
          go_quiet (fail)
          go_upto_region 26 with fail
          have hq16 := below_drewN (Below.refl w16.heap.size w16) nq
          have HBX17 := Lib.hid (HBX16.out.below hq16)
          have hB17 := hB16.trans (hq16.mono hB16.size)
          have hx := unset_own X p.name _ (w16.drewN nq) (HSX16.out.below hq16)
          rw [c5] at hx
          generalize w16.drewN nq = w17 at *
          have hBx := HBX17.out
          clear HBX16 HSX16 hB16 hq16 x0 x1 x2 x3 u0 u1 u2 v0 v1 v2
          have x0 := block_cell hBx 0
          have x1 := block_cell hBx 1
          have x2 := block_cell hBx 2
          have x3 := block_cell hBx 3
          clear hBx
          go_wp2_with fail
          refine hx.mono ?_
          clear hx x0 x1 x2 x3
          intro e w18 hret
          obtain ⟨vY, rfl, hsY, hb18⟩ := hret.r
          rw [errV_zero rfl]
          have HBX18 := Lib.hid (HBX17.out.below hb18)
          have hB18 := hB17.trans (hb18.mono hB17.size)
          obtain ⟨AY, kY, rfl, _, _⟩ := hsY.form
          have hx := get_any (unsetR X p.name) p.name _ w18 hsY
          rw [c6, errV_some (show (5 : Int) ≠ 0 by decide)] at hx
          generalize getV (unsetR X p.name) p.name = gy at *
          obtain ⟨gyt, gyn, gys⟩ := gy
          have hBx := HBX18.out
          have x0 := block_cell hBx 0
          have x1 := block_cell hBx 1
          have x2 := block_cell hBx 2
          have x3 := block_cell hBx 3
          generalize hYL : (unsetR X p.name).length = yl at *
          have hyl := C7.out
          have HYL := Lib.hid hYL
          clear hBx HBX17 hB17 hb18 hsY hret C7 hYL
          go_wp2_with fail
          refine hx.mono ?_
          clear hx x0 x1 x2 x3
          rintro e w19 ⟨rfl, hb19⟩
          have ha19 := (Below.refl w19.heap.size w19).alloc (Nat.le_refl _) (.cells #[.int .i64 gyt, .int .i64 gyn, .string gys] 25)
          have hb20 := hb19.trans (ha19.mono hb19.size)
          have hB20 := hB18.trans (hb20.mono hB18.size)
          clear HBX18 hB18 hb19 hb20 ha19
          go_upto_region 28 with fail
          generalize w19.alloc (.cells #[.int .i64 gyt, .int .i64 gyn, .string gys] 25) = w20 at *
          have hx := same_any 5 5 w20 (GlobOk.below hB20 HG.out)
          rw [errV_some (show (5 : Int) ≠ 0 by decide)] at hx
          go_wp2_with fail
          refine hx.mono ?_
          clear hx
          rintro e w21 ⟨rfl, hb21⟩
          have hX8 : X.length ≤ 8 := (rec_ok C1.out).1
          have hX1 : (1 : Int) ≤ (X.length : Int) := by omega
          go_wp2_with fail
          go_ret
          exact ⟨by simp; omega, hB20.trans (hb21.mono hB20.size)⟩
  · rw [errV_some hz, if_neg hz]
    have HBX5 := HBX4a
    have hB5 := hB4a
    obtain ⟨w5, hw5⟩ : ∃ w5 : World, w5 = w4a := ⟨_, rfl⟩
    rw [← hw5] at HBX5 hB5 ⊢
    clear hz HParR HEE HSame HBX4a hB4a hw5
    -- behind the first reading: the world is w5; HBX5, hB5
    have hx := HParS.out w5 (HT.out.below hB5)
    go_wp2_with fail
    refine hx.mono ?_
    clear hx
    rintro e w6 ⟨AX, kx, rfl, hsx, hb6⟩
    have HBX6 := Lib.hid (HBX5.out.below hb6)
    have hB6 := hB5.trans (hb6.mono hB5.size)
    clear HBX5 hB5 hb6 HParS
    obtain ⟨RE, hRE⟩ : ∃ RE, RE = readRE s.data.toList := ⟨_, rfl⟩
    have HRE := Lib.hid hRE
    rw [← hRE]
    clear hRE
    by_cases hr : RE = 0
    · have hx := HPrX.out (by rw [← HRE.out]; exact hr) AX kx w6 (HT.out.below hB6).toTxP hsx
      rw [errV_zero hr]
      generalize readRV s.data.toList = RX at *
      clear hr hsx HRE
      go_wp2_with fail
      refine hx.mono ?_
      clear hx
      rintro e w8 ⟨rfl, hb8⟩
      have HBX8 := Lib.hid (HBX6.out.below hb8)
      have hB8 := hB6.trans (hb8.mono hB6.size)
      have hss : (!s.toList == s.toList) = false := by simp
      clear HBX6 hB6 hb8 HPrX
      -- the rest, behind both readings: the world is w8; HBX8, hB8
      have hBx := HBX8.out
      have x0 := block_cell hBx 0
      have x1 := block_cell hBx 1
      have x2 := block_cell hBx 2
      have x3 := block_cell hBx 3
      have hx := HSetR.out w8 (HV.out.below hB8)
      clear hBx
      go_wp2_with fail
      refine hx.mono ?_
      clear hx x0 x1 x2 x3
      rintro e w9 ⟨vX, rfl, hsX, hb9⟩
      have HBX9 := Lib.hid (HBX8.out.below hb9)
      have hB9 := hB8.trans (hb9.mono hB8.size)
      clear HBX8 hB8 hb9
      by_cases hz : SE = 0
      case neg =>
        rw [errV_some hz]
        clear hz hsX HSX
        go_wp2_with fail
        go_ret
        exact ⟨rfl, hB9⟩
      rw [errV_zero hz]
      obtain ⟨c1, c2, c3, c4, c5, c6, c7⟩ := HSX.out hz
      have C4 := Lib.hid c4
      have C1 := Lib.hid c1
      have C7 := Lib.hid c7
      obtain ⟨AX9, kX9, rfl, _, _⟩ := hsX.form
      have HSX9 := Lib.hid hsX
      have hx := get_any X p.name _ w9 hsX
      rw [c2, c3, errV_zero rfl] at hx
      have hBx := HBX9.out
      have x0 := block_cell hBx 0
      have x1 := block_cell hBx 1
      have x2 := block_cell hBx 2
      have x3 := block_cell hBx 3
      clear hz hsX HSX hBx c1 c2 c3 c4 c7
      go_wp2_with fail
      refine hx.mono ?_
      clear hx x0 x1 x2 x3
      rintro e w10 ⟨rfl, hb10⟩
      have ha10 := (Below.refl w10.heap.size w10).alloc (Nat.le_refl _) (.cells #[.int .i64 p.v.ty, .int .i64 p.v.n, .string p.v.s] 25)
      have hb11 := hb10.trans (ha10.mono hb10.size)
      have HBX11 := Lib.hid (HBX9.out.below hb11)
      have HSX11 := Lib.hid (HSX9.out.below hb11)
      have hB11 := hB9.trans (hb11.mono hB9.size)
      have hk20 := heap_alloc_new w10 (.cells #[.int .i64 p.v.ty, .int .i64 p.v.n, .string p.v.s] 25)
      clear HBX9 HSX9 hB9 hb10 hb11 ha10
      go_upto_region 20 with fail
      generalize w10.alloc (.cells #[.int .i64 p.v.ty, .int .i64 p.v.n, .string p.v.s] 25) = w11 at *
      have z0 := block_cell hk20 0
      have z1 := block_cell hk20 1
      have z2 := block_cell hk20 2
      have hBx := HBX11.out
      have x0 := block_cell hBx 0
      have x1 := block_cell hBx 1
      have x2 := block_cell hBx 2
      have x3 := block_cell hBx 3
      have hx := recCheck_any X _ w11 HSX11.out
      rw [C1.out, errV_zero rfl] at hx
      clear hBx hk20
      go_wp2_with fail
      refine hx.mono ?_
      clear hx x0 x1 x2 x3 z0 z1 z2
      rintro e w12 ⟨rfl, hb12⟩
      have HBX12 := Lib.hid (HBX11.out.below hb12)
      have HSX12 := Lib.hid (HSX11.out.below hb12)
      have hB12 := hB11.trans (hb12.mono hB11.size)
      clear HBX11 HSX11 hB11 hb12
      have hx := HGetR.out w12 (HV.out.below hB12)
      have hGX := Lib.hid (fun wx h => get_any X name (.slice AX9 X.length kX9) wx h)
      obtain ⟨e1, he1⟩ : ∃ e1, e1 = getE r name := ⟨_, rfl⟩
      obtain ⟨e2, he2⟩ : ∃ e2, e2 = getE X name := ⟨_, rfl⟩
      rw [← he1, ← he2] at C4
      rw [← he1] at hx
      rw [← he2] at hGX
      generalize getV r name = gr at *
      generalize getV X name = gx at *
      obtain ⟨grt, grn, grs⟩ := gr
      obtain ⟨gxt, gxn, gxs⟩ := gx
      clear he1 he2 HGetR
      go_wp2_with fail
      refine hx.mono ?_
      clear hx
      rintro e w13 ⟨rfl, hb13⟩
      have ha13 := (Below.refl w13.heap.size w13).alloc (Nat.le_refl _) (.cells #[.int .i64 grt, .int .i64 grn, .string grs] 25)
      have hb14 := hb13.trans (ha13.mono hb13.size)
      have HBX14 := Lib.hid (HBX12.out.below hb14)
      have HSX14 := Lib.hid (HSX12.out.below hb14)
      have hB14 := hB12.trans (hb14.mono hB12.size)
      have hk22 := heap_alloc_new w13 (.cells #[.int .i64 grt, .int .i64 grn, .string grs] 25)
      clear HBX12 HSX12 hB12 hb13 hb14 ha13
      go_upto_region 23 with fail
      generalize w13.alloc (.cells #[.int .i64 grt, .int .i64 grn, .string grs] 25) = w14 at *
      have hx := hGX.out w14 HSX14.out
      clear hGX
      go_wp2_with fail
      refine hx.mono ?_
      clear hx
      rintro e w15 ⟨rfl, hb15⟩
      have ha15 := (Below.refl w15.heap.size w15).alloc (Nat.le_refl _) (.cells #[.int .i64 gxt, .int .i64 gxn, .string gxs] 25)
      have hb16 := hb15.trans (ha15.mono hb15.size)
      have HBX16 := Lib.hid (HBX14.out.below hb16)
      have HSX16 := Lib.hid (HSX14.out.below hb16)
      have hB16 := hB14.trans (hb16.mono hB14.size)
      have hk24 := heap_alloc_new w15 (.cells #[.int .i64 gxt, .int .i64 gxn, .string gxs] 25)
      have hk22 := (hb16.block _ (Array.getElem?_eq_some_iff.1 hk22).1).trans hk22
      clear HBX14 HSX14 hB14 hb15 hb16 ha15
      go_upto_region 24 with fail
      generalize w15.alloc (.cells #[.int .i64 gxt, .int .i64 gxn, .string gxs] 25) = w16 at *
      have hBx := HBX16.out
      have x0 := block_cell hBx 0
      have x1 := block_cell hBx 1
      have x2 := block_cell hBx 2
      have x3 := block_cell hBx 3
      have u0 := block_cell hk22 0
      have u1 := block_cell hk22 1
      have u2 := block_cell hk22 2
      have v0 := block_cell hk24 0
      have v1 := block_cell hk24 1
      have v2 := block_cell hk24 2
      clear hBx hk22 hk24
      by_cases hn : name = p.name
      · have hnb : (!name.toList == p.name.toList) = false := by rw [hn]; simp
        clear hn
        go_quiet (fail)
        go_upto_region 26 with fail
        have hq16 := below_drewN (Below.refl w16.heap.size w16) nq
        have HBX17 := Lib.hid (HBX16.out.below hq16)
        have hB17 := hB16.trans (hq16.mono hB16.size)
        have hx := unset_own X p.name _ (w16.drewN nq) (HSX16.out.below hq16)
        rw [c5] at hx
        generalize w16.drewN nq = w17 at *
        have hBx := HBX17.out
        clear HBX16 HSX16 hB16 hq16 x0 x1 x2 x3 u0 u1 u2 v0 v1 v2
        have x0 := block_cell hBx 0
        have x1 := block_cell hBx 1
        have x2 := block_cell hBx 2
        have x3 := block_cell hBx 3
        clear hBx
        go_wp2_with fail
        refine hx.mono ?_
        clear hx x0 x1 x2 x3
        intro e w18 hret
        obtain ⟨vY, rfl, hsY, hb18⟩ := hret.r
        rw [errV_zero rfl]
        have HBX18 := Lib.hid (HBX17.out.below hb18)
        have hB18 := hB17.trans (hb18.mono hB17.size)
        obtain ⟨AY, kY, rfl, _, _⟩ := hsY.form
        have hx := get_any (unsetR X p.name) p.name _ w18 hsY
        rw [c6, errV_some (show (5 : Int) ≠ 0 by decide)] at hx
        generalize getV (unsetR X p.name) p.name = gy at *
        obtain ⟨gyt, gyn, gys⟩ := gy
        have hBx := HBX18.out
        have x0 := block_cell hBx 0
        have x1 := block_cell hBx 1
        have x2 := block_cell hBx 2
        have x3 := block_cell hBx 3
        generalize hYL : (unsetR X p.name).length = yl at *
        have hyl := C7.out
        have HYL := Lib.hid hYL
        clear hBx HBX17 hB17 hb18 hsY hret C7 hYL
        go_wp2_with fail
        refine hx.mono ?_
        clear hx x0 x1 x2 x3
        rintro e w19 ⟨rfl, hb19⟩
        have ha19 := (Below.refl w19.heap.size w19).alloc (Nat.le_refl _) (.cells #[.int .i64 gyt, .int .i64 gyn, .string gys] 25)
        have hb20 := hb19.trans (ha19.mono hb19.size)
        have hB20 := hB18.trans (hb20.mono hB18.size)
        clear HBX18 hB18 hb19 hb20 ha19
        go_upto_region 28 with fail
        generalize w19.alloc (.cells #[.int .i64 gyt, .int .i64 gyn, .string gys] 25) = w20 at *
        have hx := same_any 5 5 w20 (GlobOk.below hB20 HG.out)
        rw [errV_some (show (5 : Int) ≠ 0 by decide)] at hx
        go_wp2_with fail
        refine hx.mono ?_
        clear hx
        rintro e w21 ⟨rfl, hb21⟩
        have hX8 : X.length ≤ 8 := (rec_ok C1.out).1
        have hX1 : (1 : Int) ≤ (X.length : Int) := by omega
        go_wp2_with fail
        go_ret
        exact ⟨by simp; omega, hB20.trans (hb21.mono hB20.size)⟩
      · have hnb : (!name.toList == p.name.toList) = true := by
          rw [Bool.not_eq_true', beq_eq_false_iff_ne]
          intro e
          rw [bytes_eq] at e
          exact hn e
        obtain ⟨g1, g2⟩ := C4.out hn
        injection g1 with g3 g4 g5
        subst g3
        subst g4
        subst g5
        clear hn
        by_cases hz1 : e1 = 0
        · rw [errV_zero hz1, errV_zero (g2.1 hz1)]
          clear hz1 g2 C4
          go_quiet (fail)
          go_upto_region 26 with fail
          have hq16 := below_drewN (Below.refl w16.heap.size w16) nq
          have HBX17 := Lib.hid (HBX16.out.below hq16)
          have hB17 := hB16.trans (hq16.mono hB16.size)
          have hx := unset_own X p.name _ (w16.drewN nq) (HSX16.out.below hq16)
          rw [c5] at hx
          generalize w16.drewN nq = w17 at *
          have hBx := HBX17.out
          clear HBX16 HSX16 hB16 hq16 x0 x1 x2 x3 u0 u1 u2 v0 v1 v2
          have x0 := block_cell hBx 0
          have x1 := block_cell hBx 1
          have x2 := block_cell hBx 2
          have x3 := block_cell hBx 3
          clear hBx
          go_wp2_with fail
          refine hx.mono ?_
          clear hx x0 x1 x2 x3
          intro e w18 hret
          obtain ⟨vY, rfl, hsY, hb18⟩ := hret.r
          rw [errV_zero rfl]
          have HBX18 := Lib.hid (HBX17.out.below hb18)
          have hB18 := hB17.trans (hb18.mono hB17.size)
          obtain ⟨AY, kY, rfl, _, _⟩ := hsY.form
          have hx := get_any (unsetR X p.name) p.name _ w18 hsY
          rw [c6, errV_some (show (5 : Int) ≠ 0 by decide)] at hx
          generalize getV (unsetR X p.name) p.name = gy at *
          obtain ⟨gyt, gyn, gys⟩ := gy
          have hBx := HBX18.out
          have x0 := block_cell hBx 0
          have x1 := block_cell hBx 1
          have x2 := block_cell hBx 2
          have x3 := block_cell hBx 3
          generalize hYL : (unsetR X p.name).length = yl at *
          have hyl := C7.out
          have HYL := Lib.hid hYL
          clear hBx HBX17 hB17 hb18 hsY hret C7 hYL
          go_wp2_with fail
          refine hx.mono ?_
          clear hx x0 x1 x2 x3
          rintro e w19 ⟨rfl, hb19⟩
          have ha19 := (Below.refl w19.heap.size w19).alloc (Nat.le_refl _) (.cells #[.int .i64 gyt, .int .i64 gyn, .string gys] 25)
          have hb20 := hb19.trans (ha19.mono hb19.size)
          have hB20 := hB18.trans (hb20.mono hB18.size)
          clear HBX18 hB18 hb19 hb20 ha19
          go_upto_region 28 with fail
          generalize w19.alloc (.cells #[.int .i64 gyt, .int .i64 gyn, .string gys] 25) = w20 at *
          have hx := same_any 5 5 w20 (GlobOk.below hB20 HG.out)
          rw [errV_some (show (5 : Int) ≠ 0 by decide)] at hx
          go_wp2_with fail
          refine hx.mono ?_
          clear hx
          rintro e w21 ⟨rfl, hb21⟩
          have hX8 : X.length ≤ 8 := (rec_ok C1.out).1
          have hX1 : (1 : Int) ≤ (X.length : Int) := by omega
          go_wp2_with fail
          go_ret
          exact ⟨by simp; omega, hB20.trans (hb21.mono hB20.size)⟩
        · have hz2 : e2 ≠ 0 := fun e => hz1 (g2.2 e)
          rw [errV_some hz1, errV_some hz2]
          clear hz1 hz2 g2 C4
          go_quiet (fail)
          go_upto_region 26 with fail
          have hq16 := below_drewN (Below.refl w16.heap.size w16) nq
          have HBX17 := Lib.hid (HBX16.out.below hq16)
          have hB17 := hB16.trans (hq16.mono hB16.size)
          have hx := unset_own X p.name _ (w16.drewN nq) (HSX16.out.below hq16)
          rw [c5] at hx
          generalize w16.drewN nq = w17 at *
          have hBx := HBX17.out
          clear HBX16 HSX16 hB16 hq16 x0 x1 x2 x3 u0 u1 u2 v0 v1 v2
          have x0 := block_cell hBx 0
          have x1 := block_cell hBx 1
          have x2 := block_cell hBx 2
          have x3 := block_cell hBx 3
          clear hBx
          go_wp2_with fail
          refine hx.mono ?_
          clear hx x0 x1 x2 x3
          intro e w18 hret
          obtain ⟨vY, rfl, hsY, hb18⟩ := hret.r
          rw [errV_zero rfl]
          have HBX18 := Lib.hid (HBX17.out.below hb18)
          have hB18 := hB17.trans (hb18.mono hB17.size)
          obtain ⟨AY, kY, rfl, _, _⟩ := hsY.form
          have hx := get_any (unsetR X p.name) p.name _ w18 hsY
          rw [c6, errV_some (show (5 : Int) ≠ 0 by decide)] at hx
          generalize getV (unsetR X p.name) p.name = gy at *
          obtain ⟨gyt, gyn, gys⟩ := gy
          have hBx := HBX18.out
          have x0 := block_cell hBx 0
          have x1 := block_cell hBx 1
          have x2 := block_cell hBx 2
          have x3 := block_cell hBx 3
          generalize hYL : (unsetR X p.name).length = yl at *
          have hyl := C7.out
          have HYL := Lib.hid hYL
          clear hBx HBX17 hB17 hb18 hsY hret C7 hYL
          go_wp2_with fail
          refine hx.mono ?_
          clear hx x0 x1 x2 x3
          rintro e w19 ⟨rfl, hb19⟩
          have ha19 := (Below.refl w19.heap.size w19).alloc (Nat.le_refl _) (.cells #[.int .i64 gyt, .int .i64 gyn, .string gys] 25)
          have hb20 := hb19.trans (ha19.mono hb19.size)
          have hB20 := hB18.trans (hb20.mono hB18.size)
          clear HBX18 hB18 hb19 hb20 ha19
          go_upto_region 28 with fail
          generalize w19.alloc (.cells #[.int .i64 gyt, .int .i64 gyn, .string gys] 25) = w20 at *
          have hx := same_any 5 5 w20 (GlobOk.below hB20 HG.out)
          rw [errV_some (show (5 : Int) ≠ 0 by decide)] at hx
          go_wp2_with fail
          refine hx.mono ?_
          clear hx
          rintro e w21 ⟨rfl, hb21⟩
          have hX8 : X.length ≤ 8 := (rec_ok C1.out).1
          have hX1 : (1 : Int) ≤ (X.length : Int) := by omega
          go_wp2_with fail
          go_ret
          exact ⟨by simp; omega, hB20.trans (hb21.mono hB20.size)⟩
    · rw [errV_some hr]
      generalize readRV s.data.toList = RX at *
      have HBX8 := HBX6
      have hB8 := hB6
      obtain ⟨w8, hw8⟩ : ∃ w8 : World, w8 = w6 := ⟨_, rfl⟩
      rw [← hw8] at HBX8 hB8 ⊢
      clear hr hsx HRE HBX6 hB6 HPrX hw8
      -- the rest, behind both readings: the world is w8; HBX8, hB8
      have hBx := HBX8.out
      have x0 := block_cell hBx 0
      have x1 := block_cell hBx 1
      have x2 := block_cell hBx 2
      have x3 := block_cell hBx 3
      have hx := HSetR.out w8 (HV.out.below hB8)
      clear hBx
      go_wp2_with fail
      refine hx.mono ?_
      clear hx x0 x1 x2 x3
      rintro e w9 ⟨vX, rfl, hsX, hb9⟩
      have HBX9 := Lib.hid (HBX8.out.below hb9)
      have hB9 := hB8.trans (hb9.mono hB8.size)
      clear HBX8 hB8 hb9
      by_cases hz : SE = 0
      case neg =>
        rw [errV_some hz]
        clear hz hsX HSX
        go_wp2_with fail
        go_ret
        exact ⟨rfl, hB9⟩
      rw [errV_zero hz]
      obtain ⟨c1, c2, c3, c4, c5, c6, c7⟩ := HSX.out hz
      have C4 := Lib.hid c4
      have C1 := Lib.hid c1
      have C7 := Lib.hid c7
      obtain ⟨AX9, kX9, rfl, _, _⟩ := hsX.form
      have HSX9 := Lib.hid hsX
      have hx := get_any X p.name _ w9 hsX
      rw [c2, c3, errV_zero rfl] at hx
      have hBx := HBX9.out
      have x0 := block_cell hBx 0
      have x1 := block_cell hBx 1
      have x2 := block_cell hBx 2
      have x3 := block_cell hBx 3
      clear hz hsX HSX hBx c1 c2 c3 c4 c7
      go_wp2_with fail
      refine hx.mono ?_
      clear hx x0 x1 x2 x3
      rintro e w10 ⟨rfl, hb10⟩
      have ha10 := (Below.refl w10.heap.size w10).alloc (Nat.le_refl _) (.cells #[.int .i64 p.v.ty, .int .i64 p.v.n, .string p.v.s] 25)
      have hb11 := hb10.trans (ha10.mono hb10.size)
      have HBX11 := Lib.hid (HBX9.out.below hb11)
      have HSX11 := Lib.hid (HSX9.out.below hb11)
      have hB11 := hB9.trans (hb11.mono hB9.size)
      have hk20 := heap_alloc_new w10 (.cells #[.int .i64 p.v.ty, .int .i64 p.v.n, .string p.v.s] 25)
      clear HBX9 HSX9 hB9 hb10 hb11 ha10
      go_upto_region 20 with fail
      generalize w10.alloc (.cells #[.int .i64 p.v.ty, .int .i64 p.v.n, .string p.v.s] 25) = w11 at *
      have z0 := block_cell hk20 0
      have z1 := block_cell hk20 1
      have z2 := block_cell hk20 2
      have hBx := HBX11.out
      have x0 := block_cell hBx 0
      have x1 := block_cell hBx 1
      have x2 := block_cell hBx 2
      have x3 := block_cell hBx 3
      have hx := recCheck_any X _ w11 HSX11.out
      rw [C1.out, errV_zero rfl] at hx
      clear hBx hk20
      go_wp2_with fail
      refine hx.mono ?_
      clear hx x0 x1 x2 x3 z0 z1 z2
      rintro e w12 ⟨rfl, hb12⟩
      have HBX12 := Lib.hid (HBX11.out.below hb12)
      have HSX12 := Lib.hid (HSX11.out.below hb12)
      have hB12 := hB11.trans (hb12.mono hB11.size)
      clear HBX11 HSX11 hB11 hb12
      have hx := HGetR.out w12 (HV.out.below hB12)
      have hGX := Lib.hid (fun wx h => get_any X name (.slice AX9 X.length kX9) wx h)
      obtain ⟨e1, he1⟩ : ∃ e1, e1 = getE r name := ⟨_, rfl⟩
      obtain ⟨e2, he2⟩ : ∃ e2, e2 = getE X name := ⟨_, rfl⟩
      rw [← he1, ← he2] at C4
      rw [← he1] at hx
      rw [← he2] at hGX
      generalize getV r name = gr at *
      generalize getV X name = gx at *
      obtain ⟨grt, grn, grs⟩ := gr
      obtain ⟨gxt, gxn, gxs⟩ := gx
      clear he1 he2 HGetR
      go_wp2_with fail
      refine hx.mono ?_
      clear hx
      rintro e w13 ⟨rfl, hb13⟩
      have ha13 := (Below.refl w13.heap.size w13).alloc (Nat.le_refl _) (.cells #[.int .i64 grt, .int .i64 grn, .string grs] 25)
      have hb14 := hb13.trans (ha13.mono hb13.size)
      have HBX14 := Lib.hid (HBX12.out.below hb14)
      have HSX14 := Lib.hid (HSX12.out.below hb14)
      have hB14 := hB12.trans (hb14.mono hB12.size)
      have hk22 := heap_alloc_new w13 (.cells #[.int .i64 grt, .int .i64 grn, .string grs] 25)
      clear HBX12 HSX12 hB12 hb13 hb14 ha13
      go_upto_region 23 with fail
      generalize w13.alloc (.cells #[.int .i64 grt, .int .i64 grn, .string grs] 25) = w14 at *
      have hx := hGX.out w14 HSX14.out
      clear hGX
      go_wp2_with fail
      refine hx.mono ?_
      clear hx
      rintro e w15 ⟨rfl, hb15⟩
      have ha15 := (Below.refl w15.heap.size w15).alloc (Nat.le_refl _) (.cells #[.int .i64 gxt, .int .i64 gxn, .string gxs] 25)
      have hb16 := hb15.trans (ha15.mono hb15.size)
      have HBX16 := Lib.hid (HBX14.out.below hb16)
      have HSX16 := Lib.hid (HSX14.out.below hb16)
      have hB16 := hB14.trans (hb16.mono hB14.size)
      have hk24 := heap_alloc_new w15 (.cells #[.int .i64 gxt, .int .i64 gxn, .string gxs] 25)
      have hk22 := (hb16.block _ (Array.getElem?_eq_some_iff.1 hk22).1).trans hk22
      clear HBX14 HSX14 hB14 hb15 hb16 ha15
      go_upto_region 24 with fail
      generalize w15.alloc (.cells #[.int .i64 gxt, .int .i64 gxn, .string gxs] 25) = w16 at *
      have hBx := HBX16.out
      have x0 := block_cell hBx 0
      have x1 := block_cell hBx 1
      have x2 := block_cell hBx 2
      have x3 := block_cell hBx 3
      have u0 := block_cell hk22 0
      have u1 := block_cell hk22 1
      have u2 := block_cell hk22 2
      have v0 := block_cell hk24 0
      have v1 := block_cell hk24 1
      have v2 := block_cell hk24 2
      clear hBx hk22 hk24
      by_cases hn : name = p.name
      · have hnb : (!name.toList == p.name.toList) = false := by rw [hn]; simp
        clear hn
        go_quiet (fail)
        go_upto_region 26 with fail
        have hq16 := below_drewN (Below.refl w16.heap.size w16) nq
        have HBX17 := Lib.hid (HBX16.out.below hq16)
        have hB17 := hB16.trans (hq16.mono hB16.size)
        have hx := unset_own X p.name _ (w16.drewN nq) (HSX16.out.below hq16)
        rw [c5] at hx
        generalize w16.drewN nq = w17 at *
        have hBx := HBX17.out
        clear HBX16 HSX16 hB16 hq16 x0 x1 x2 x3 u0 u1 u2 v0 v1 v2
        have x0 := block_cell hBx 0
        have x1 := block_cell hBx 1
        have x2 := block_cell hBx 2
        have x3 := block_cell hBx 3
        clear hBx
        go_wp2_with fail
        refine hx.mono ?_
        clear hx x0 x1 x2 x3
        intro e w18 hret
        obtain ⟨vY, rfl, hsY, hb18⟩ := hret.r
        rw [errV_zero rfl]
        have HBX18 := Lib.hid (HBX17.out.below hb18)
        have hB18 := hB17.trans (hb18.mono hB17.size)
        obtain ⟨AY, kY, rfl, _, _⟩ := hsY.form
        have hx := get_any (unsetR X p.name) p.name _ w18 hsY
        rw [c6, errV_some (show (5 : Int) ≠ 0 by decide)] at hx
        generalize getV (unsetR X p.name) p.name = gy at *
        obtain ⟨gyt, gyn, gys⟩ := gy
        have hBx := HBX18.out
        have x0 := block_cell hBx 0
        have x1 := block_cell hBx 1
        have x2 := block_cell hBx 2
        have x3 := block_cell hBx 3
        generalize hYL : (unsetR X p.name).length = yl at *
        have hyl := C7.out
        have HYL := Lib.hid hYL
        clear hBx HBX17 hB17 hb18 hsY hret C7 hYL
        go_wp2_with fail
        refine hx.mono ?_
        clear hx x0 x1 x2 x3
        rintro e w19 ⟨rfl, hb19⟩
        have ha19 := (Below.refl w19.heap.size w19).alloc (Nat.le_refl _) (.cells #[.int .i64 gyt, .int .i64 gyn, .string gys] 25)
        have hb20 := hb19.trans (ha19.mono hb19.size)
        have hB20 := hB18.trans (hb20.mono hB18.size)
        clear HBX18 hB18 hb19 hb20 ha19
        go_upto_region 28 with fail
        generalize w19.alloc (.cells #[.int .i64 gyt, .int .i64 gyn, .string gys] 25) = w20 at *
        have hx := same_any 5 5 w20 (GlobOk.below hB20 HG.out)
        rw [errV_some (show (5 : Int) ≠ 0 by decide)] at hx
        go_wp2_with fail
        refine hx.mono ?_
        clear hx
        rintro e w21 ⟨rfl, hb21⟩
        have hX8 : X.length ≤ 8 := (rec_ok C1.out).1
        have hX1 : (1 : Int) ≤ (X.length : Int) := by omega
        go_wp2_with fail
        go_ret
        exact ⟨by simp; omega, hB20.trans (hb21.mono hB20.size)⟩
      · have hnb : (!name.toList == p.name.toList) = true := by
          rw [Bool.not_eq_true', beq_eq_false_iff_ne]
          intro e
          rw [bytes_eq] at e
          exact hn e
        obtain ⟨g1, g2⟩ := C4.out hn
        injection g1 with g3 g4 g5
        subst g3
        subst g4
        subst g5
        clear hn
        by_cases hz1 : e1 = 0
        · rw [errV_zero hz1, errV_zero (g2.1 hz1)]
          clear hz1 g2 C4
          go_quiet (fail)
          go_upto_region 26 with fail
          have hq16 := below_drewN (Below.refl w16.heap.size w16) nq
          have HBX17 := Lib.hid (HBX16.out.below hq16)
          have hB17 := hB16.trans (hq16.mono hB16.size)
          have hx := unset_own X p.name _ (w16.drewN nq) (HSX16.out.below hq16)
          rw [c5] at hx
          generalize w16.drewN nq = w17 at *
          have hBx := HBX17.out
          clear HBX16 HSX16 hB16 hq16 x0 x1 x2 x3 u0 u1 u2 v0 v1 v2
          have x0 := block_cell hBx 0
          have x1 := block_cell hBx 1
          have x2 := block_cell hBx 2
          have x3 := block_cell hBx 3
          clear hBx
          go_wp2_with fail
          refine hx.mono ?_
          clear hx x0 x1 x2 x3
          intro e w18 hret
          obtain ⟨vY, rfl, hsY, hb18⟩ := hret.r
          rw [errV_zero rfl]
          have HBX18 := Lib.hid (HBX17.out.below hb18)
          have hB18 := hB17.trans (hb18.mono hB17.size)
          obtain ⟨AY, kY, rfl, _, _⟩ := hsY.form
          have hx := get_any (unsetR X p.name) p.name _ w18 hsY
          rw [c6, errV_some (show (5 : Int) ≠ 0 by decide)] at hx
          generalize getV (unsetR X p.name) p.name = gy at *
          obtain ⟨gyt, gyn, gys⟩ := gy
          have hBx := HBX18.out
          have x0 := block_cell hBx 0
          have x1 := block_cell hBx 1
          have x2 := block_cell hBx 2
          have x3 := block_cell hBx 3
          generalize hYL : (unsetR X p.name).length = yl at *
          have hyl := C7.out
          have HYL := Lib.hid hYL
          clear hBx HBX17 hB17 hb18 hsY hret C7 hYL
          go_wp2_with fail
          refine hx.mono ?_
          clear hx x0 x1 x2 x3
          rintro e w19 ⟨rfl, hb19⟩
          have ha19 := (Below.refl w19.heap.size w19).alloc (Nat.le_refl _) (.cells #[.int .i64 gyt, .int .i64 gyn, .string gys] 25)
          have hb20 := hb19.trans (ha19.mono hb19.size)
          have hB20 := hB18.trans (hb20.mono hB18.size)
          clear HBX18 hB18 hb19 hb20 ha19
          go_upto_region 28 with fail
          generalize w19.alloc (.cells #[.int .i64 gyt, .int .i64 gyn, .string gys] 25) = w20 at *
          have hx := same_any 5 5 w20 (GlobOk.below hB20 HG.out)
          rw [errV_some (show (5 : Int) ≠ 0 by decide)] at hx
          go_wp2_with fail
          refine hx.mono ?_
          clear hx
          rintro e w21 ⟨rfl, hb21⟩
          have hX8 : X.length ≤ 8 := (rec_ok C1.out).1
          have hX1 : (1 : Int) ≤ (X.length : Int) := by omega
          go_wp2_with fail
          go_ret
          exact ⟨by simp; omega, hB20.trans (hb21.mono hB20.size)⟩
        · have hz2 : e2 ≠ 0 := fun e => hz1 (g2.2 e)
          rw [errV_some hz1, errV_some hz2]
          clear hz1 hz2 g2 C4
          go_quiet (fail)
          go_upto_region 26 with fail
          have hq16 := below_drewN (Below.refl w16.heap.size w16) nq
          have HBX17 := Lib.hid (HBX16.out.below hq16)
          have hB17 := hB16.trans (hq16.mono hB16.size)
          have hx := unset_own X p.name _ (w16.drewN nq) (HSX16.out.below hq16)
          rw [c5] at hx
          generalize w16.drewN nq = w17 at *
          have hBx := HBX17.out
          clear HBX16 HSX16 hB16 hq16 x0 x1 x2 x3 u0 u1 u2 v0 v1 v2
          have x0 := block_cell hBx 0
          have x1 := block_cell hBx 1
          have x2 := block_cell hBx 2
          have x3 := block_cell hBx 3
          clear hBx
          go_wp2_with fail
          refine hx.mono ?_
          clear hx x0 x1 x2 x3
          intro e w18 hret
          obtain ⟨vY, rfl, hsY, hb18⟩ := hret.r
          rw [errV_zero rfl]
          have HBX18 := Lib.hid (HBX17.out.below hb18)
          have hB18 := hB17.trans (hb18.mono hB17.size)
          obtain ⟨AY, kY, rfl, _, _⟩ := hsY.form
          have hx := get_any (unsetR X p.name) p.name _ w18 hsY
          rw [c6, errV_some (show (5 : Int) ≠ 0 by decide)] at hx
          generalize getV (unsetR X p.name) p.name = gy at *
          obtain ⟨gyt, gyn, gys⟩ := gy
          have hBx := HBX18.out
          have x0 := block_cell hBx 0
          have x1 := block_cell hBx 1
          have x2 := block_cell hBx 2
          have x3 := block_cell hBx 3
          generalize hYL : (unsetR X p.name).length = yl at *
          have hyl := C7.out
          have HYL := Lib.hid hYL
          clear hBx HBX17 hB17 hb18 hsY hret C7 hYL
          go_wp2_with fail
          refine hx.mono ?_
          clear hx x0 x1 x2 x3
          rintro e w19 ⟨rfl, hb19⟩
          have ha19 := (Below.refl w19.heap.size w19).alloc (Nat.le_refl _) (.cells #[.int .i64 gyt, .int .i64 gyn, .string gys] 25)
          have hb20 := hb19.trans (ha19.mono hb19.size)
          have hB20 := hB18.trans (hb20.mono hB18.size)
          clear HBX18 hB18 hb19 hb20 ha19
          go_upto_region 28 with fail
          generalize w19.alloc (.cells #[.int .i64 gyt, .int .i64 gyn, .string gys] 25) = w20 at *
          have hx := same_any 5 5 w20 (GlobOk.below hB20 HG.out)
          rw [errV_some (show (5 : Int) ≠ 0 by decide)] at hx
          go_wp2_with fail
          refine hx.mono ?_
          clear hx
          rintro e w21 ⟨rfl, hb21⟩
          have hX8 : X.length ≤ 8 := (rec_ok C1.out).1
          have hX1 : (1 : Int) ≤ (X.length : Int) := by omega
          go_wp2_with fail
          go_ret
          exact ⟨by simp; omega, hB20.trans (hb21.mono hB20.size)⟩
end Go.Proofs.YtmbeeaohidgfgaaGreatDoor
