/- Parts: VBac. -/
import Derived.Test.YtmbeeaohidgfgaaDoorMg16
import Derived.Test.YtmbeeaohidgfgaaDoorMg18
import Derived.Deep.DeepCutAuto
/- The law ValueBack, of the walks' contracts. Conditions: what the library's texts lean on (TxOk); the texts are not too long. -/
namespace Go.Proofs.YtmbeeaohidgfgaaDoor
open Go Go.RowKit

/-- Three values, each in its box. -/
def Box3 (q : Nat) (a b c : Val) (w : World) : Prop :=
  w.heap[q]? = some (.cells #[.int .i64 a.ty, .int .i64 a.n, .string a.s] 34) ∧ w.heap[q + 1]? = some (.cells #[.int .i64 b.ty, .int .i64 b.n, .string b.s] 34) ∧ w.heap[q + 1 + 1]? = some (.cells #[.int .i64 c.ty, .int .i64 c.n, .string c.s] 34)
theorem Box3.below {q : Nat} {a b c : Val} {w w' : World} (h : Box3 q a b c w) (hb : Below w.heap.size w w') : Box3 q a b c w' :=
  ⟨(hb.block _ (Array.getElem?_eq_some_iff.1 h.1).1).trans h.1, (hb.block _ (Array.getElem?_eq_some_iff.1 h.2.1).1).trans h.2.1, (hb.block _ (Array.getElem?_eq_some_iff.1 h.2.2).1).trans h.2.2⟩
theorem itsE : readE [39, 105, 116, 39, 39, 115, 39] = 0 ∧ readV [39, 105, 116, 39, 39, 115, 39] = ⟨3, 0, ⟨#[105, 116, 39, 115]⟩⟩ := by
  have h : valE ⟨3, 0, ⟨#[105, 116, 39, 115]⟩⟩ = 0 := by decide +kernel
  have e : showL ⟨3, 0, ⟨#[105, 116, 39, 115]⟩⟩ = [39, 105, 116, 39, 39, 115, 39] := by decide +kernel
  have := read_show h
  rw [e] at this
  exact this
theorem cmp_ok {a b : Val} (h : cmpE2 a b = 0) : valE a = 0 ∧ valE b = 0 ∧ a.ty = b.ty ∧ cmpV2 a b = ordV a b := by
  refine ⟨?_, ?_, ?_, by unfold cmpV2; rw [if_pos h]⟩
  all_goals
    unfold cmpE2 at h
    split at h
    · rename_i h1
      split at h
      · rename_i h2
        split at h
        · rename_i h3
          first | exact h1 | exact h2 | exact h3
        · cases h
      · rename_i h2; exact absurd h h2
    · rename_i h1; exact absurd h h1
theorem cmp_of {a b : Val} (h1 : valE a = 0) (h2 : valE b = 0) (h3 : a.ty = b.ty) : cmpE2 a b = 0 := by
  unfold cmpE2; rw [if_pos h1, if_pos h2, if_pos h3]
theorem ordV_small (a b : Val) : -1 ≤ ordV a b ∧ ordV a b ≤ 1 := by
  have h1 : -1 ≤ cmpI a.ty b.ty ∧ cmpI a.ty b.ty ≤ 1 := by unfold cmpI; split <;> (try split) <;> omega
  have h2 : -1 ≤ cmpI a.n b.n ∧ cmpI a.n b.n ≤ 1 := by unfold cmpI; split <;> (try split) <;> omega
  have h3 : -1 ≤ cmpS a.s b.s ∧ cmpS a.s b.s ≤ 1 := by
    unfold cmpS
    rcases compareBytes_small a.s.data.toList b.s.data.toList with h | h | h <;> rw [h] <;> omega
  rw [ordV_eq]
  split
  · split
    · split <;> omega
    · omega
  · omega
set_option maxRecDepth 100000 in
set_option maxHeartbeats 8000000 in
theorem valueBack_any (a b c : Val) (s : ByteArray) (w : World) (hT : TxOk w) (ha : a.ok) (hb : b.ok) (hc : c.ok) (hs : Sm s) :
    Calls Tryd.prog 5 #[.agg #[.int .i64 a.ty, .int .i64 a.n, .string a.s], .agg #[.int .i64 b.ty, .int .i64 b.n, .string b.s], .agg #[.int .i64 c.ty, .int .i64 c.n, .string c.s], .string s] w fun e w' => e = .returned (.bool true) ∧ Below w.heap.size w w' := by
  have hW : ∃ W3, W3 = ((w.alloc (.cells #[.int .i64 a.ty, .int .i64 a.n, .string a.s] 34)).alloc (.cells #[.int .i64 b.ty, .int .i64 b.n, .string b.s] 34)).alloc (.cells #[.int .i64 c.ty, .int .i64 c.n, .string c.s] 34) := ⟨_, rfl⟩
  obtain ⟨W3, hW3⟩ := hW
  have hB0 : Below w.heap.size w W3 := by
    subst hW3
    exact (((Below.refl _ _).alloc (Nat.le_refl _) _).alloc (by simp) _).alloc (by simp; omega) _
  have hBx : Box3 w.heap.size a b c W3 := by
    subst hW3
    have h1 := heap_alloc_new w (.cells #[.int .i64 a.ty, .int .i64 a.n, .string a.s] 34)
    have h2 := heap_alloc_new (w.alloc (.cells #[.int .i64 a.ty, .int .i64 a.n, .string a.s] 34)) (.cells #[.int .i64 b.ty, .int .i64 b.n, .string b.s] 34)
    have h3 := heap_alloc_new ((w.alloc (.cells #[.int .i64 a.ty, .int .i64 a.n, .string a.s] 34)).alloc (.cells #[.int .i64 b.ty, .int .i64 b.n, .string b.s] 34)) (.cells #[.int .i64 c.ty, .int .i64 c.n, .string c.s] 34)
    have b2 : Below (w.alloc (.cells #[.int .i64 a.ty, .int .i64 a.n, .string a.s] 34)).heap.size (w.alloc (.cells #[.int .i64 a.ty, .int .i64 a.n, .string a.s] 34)) ((w.alloc (.cells #[.int .i64 a.ty, .int .i64 a.n, .string a.s] 34)).alloc (.cells #[.int .i64 b.ty, .int .i64 b.n, .string b.s] 34)) := (Below.refl _ _).alloc (Nat.le_refl _) _
    have b3 : Below ((w.alloc (.cells #[.int .i64 a.ty, .int .i64 a.n, .string a.s] 34)).alloc (.cells #[.int .i64 b.ty, .int .i64 b.n, .string b.s] 34)).heap.size ((w.alloc (.cells #[.int .i64 a.ty, .int .i64 a.n, .string a.s] 34)).alloc (.cells #[.int .i64 b.ty, .int .i64 b.n, .string b.s] 34)) (((w.alloc (.cells #[.int .i64 a.ty, .int .i64 a.n, .string a.s] 34)).alloc (.cells #[.int .i64 b.ty, .int .i64 b.n, .string b.s] 34)).alloc (.cells #[.int .i64 c.ty, .int .i64 c.n, .string c.s] 34)) := (Below.refl _ _).alloc (Nat.le_refl _) _
    have h1' := (b2.block _ (Array.getElem?_eq_some_iff.1 h1).1).trans h1
    have h1'' := (b3.block _ (Array.getElem?_eq_some_iff.1 h1').1).trans h1'
    have h2' := (b3.block _ (Array.getElem?_eq_some_iff.1 h2).1).trans h2
    have s1 : (w.alloc (.cells #[.int .i64 a.ty, .int .i64 a.n, .string a.s] 34)).heap.size = w.heap.size + 1 := by simp
    have s2 : ((w.alloc (.cells #[.int .i64 a.ty, .int .i64 a.n, .string a.s] 34)).alloc (.cells #[.int .i64 b.ty, .int .i64 b.n, .string b.s] 34)).heap.size = w.heap.size + 1 + 1 := by simp
    rw [s1] at h2'
    rw [s2] at h3
    exact ⟨h1'', h2', h3⟩
  have HT := Lib.hid (hT.below hB0)
  -- what the four functions answer here, in any world
  have hfact : Hid (∀ wx, TxOk wx → Calls Tryd.prog 10 #[.string ⟨#[39, 105, 116, 39, 39, 115, 39]⟩] wx fun e w' => e = .returned (.tuple #[.agg #[.int .i64 3, .int .i64 0, .string ⟨#[105, 116, 39, 115]⟩], .nilIface]) ∧ Below wx.heap.size wx w') := by
    intro wx hw
    have h := vparse_any ⟨#[39, 105, 116, 39, 39, 115, 39]⟩ (by unfold Sm; show (7 : Nat) ≤ _; omega) wx hw
    have e : (⟨#[39, 105, 116, 39, 39, 115, 39]⟩ : ByteArray).data.toList = [39, 105, 116, 39, 39, 115, 39] := rfl
    rw [e, itsE.1, itsE.2] at h
    exact h
  have hprA := Lib.hid (fun wx hw => vprint_any a ha wx hw)
  have hparA : Hid (valE a = 0 → ∀ wx, TxOk wx → Calls Tryd.prog 10 #[.string (bs (showL a))] wx fun e w' => e = .returned (.tuple #[.agg #[.int .i64 a.ty, .int .i64 a.n, .string a.s], .nilIface]) ∧ Below wx.heap.size wx w') := by
    intro h0 wx hw
    obtain ⟨r1, r2⟩ := read_show h0
    have hlen := show_len h0
    have h := vparse_any (bs (showL a)) (by unfold Sm; rw [bs_size]; omega) wx hw
    rw [bs_list, r1, r2] at h
    exact h
  have hparS := Lib.hid (fun wx hw => vparse_any s hs wx hw)
  have hprS : Hid (readE s.data.toList = 0 → ∀ wx, TxOk wx → Calls Tryd.prog 9 #[.agg #[.int .i64 (readV s.data.toList).ty, .int .i64 (readV s.data.toList).n, .string (readV s.data.toList).s]] wx fun e w' => e = .returned (.tuple #[.string s, .nilIface]) ∧ Below wx.heap.size wx w') := by
    intro h0 wx hw
    obtain ⟨r1, r2⟩ := show_read h0
    have hok : (readV s.data.toList).ok := by
      rcases val_parts r1 with ⟨h1, h2, h3, h4⟩ | ⟨h1, h2, h3⟩ | ⟨h1, h2, h3, _⟩
      · exact ⟨by rw [h1]; unfold I64; omega, by unfold I64; omega, by rw [h4]; unfold Sm; show (0 : Nat) ≤ _; omega⟩
      · exact ⟨by rw [h1]; unfold I64; omega, by unfold I64; omega, by rw [h3]; unfold Sm; show (0 : Nat) ≤ _; omega⟩
      · exact ⟨by rw [h1]; unfold I64; omega, by rw [h2]; unfold I64; omega, by unfold Sm; omega⟩
    have h := vprint_any _ hok wx hw.toTxP
    rw [r1, if_pos rfl, r2, bs_of] at h
    exact h
  have hAB := Lib.hid (fun wx => vcompare_any a b ha hb wx)
  have hBC := Lib.hid (fun wx => vcompare_any b c hb hc wx)
  have hAC := Lib.hid (fun wx => vcompare_any a c ha hc wx)
  have hBA := Lib.hid (fun wx => vcompare_any b a hb ha wx)
  have hOK : Hid (cmpE2 a b = 0 → cmpE2 b c = 0 → cmpE2 a c = 0 ∧ cmpE2 b a = 0 ∧ cmpV2 b a = - cmpV2 a b ∧ (cmpV2 a b = 0 ↔ a = b) ∧ (0 < cmpV2 a b ∨ 0 < cmpV2 b c ∨ cmpV2 a c ≤ 0) ∧ -1 ≤ cmpV2 a b ∧ cmpV2 a b ≤ 1) := by
    intro h1 h2
    obtain ⟨a1, b1, t1, v1⟩ := cmp_ok h1
    obtain ⟨_, c1, t2, v2⟩ := cmp_ok h2
    have h3 := cmp_of a1 c1 (t1.trans t2)
    have h4 := cmp_of b1 a1 t1.symm
    obtain ⟨_, _, _, v3⟩ := cmp_ok h3
    obtain ⟨_, _, _, v4⟩ := cmp_ok h4
    have hle := ordV_le (a := a) (b := b) (c := c)
    have hsm := ordV_small a b
    rw [v1, v2, v3, v4]
    exact ⟨h3, h4, ordV_flip a b, ordV_zero, by omega, hsm.1, hsm.2⟩
  clear hT ha hb hc hs
  go_enter Tryd.func5, Tryd.ntmps5
  go_upto_region 1 with fail
  rw [← hW3]
  clear hW3
  have hx := hfact.out W3 HT.out
  clear hfact
  go_wp2_with fail
  refine hx.mono ?_
  clear hx
  rintro e w1 ⟨rfl, hb1⟩
  have hBx1 := hBx.below hb1
  have HT1 := Lib.hid (HT.out.below hb1)
  have hB1 := hB0.trans (hb1.mono hB0.size)
  clear hBx HT hb1 hB0
  have ha1 : Below w1.heap.size w1 (w1.alloc (.cells #[.int .i64 3, .int .i64 0, .string ⟨#[105, 116, 39, 115]⟩] 34)) := (Below.refl _ _).alloc (Nat.le_refl _) _
  have hBx2 := hBx1.below ha1
  have HT2 := Lib.hid (HT1.out.below ha1)
  have hB2 := hB1.trans (ha1.mono hB1.size)
  clear hBx1 HT1 ha1 hB1
  -- the nine cells of the three boxes, in the world of hBx2
  have x0 := block_cell hBx2.1 0
  have x1 := block_cell hBx2.1 1
  have x2 := block_cell hBx2.1 2
  have y0 := block_cell hBx2.2.1 0
  have y1 := block_cell hBx2.2.1 1
  have y2 := block_cell hBx2.2.1 2
  have z0 := block_cell hBx2.2.2 0
  have z1 := block_cell hBx2.2.2 1
  have z2 := block_cell hBx2.2.2 2
  go_upto_region 4 with fail
  generalize w1.alloc (.cells #[.int .i64 3, .int .i64 0, .string ⟨#[105, 116, 39, 115]⟩] 34) = w2 at *
  clear y0 y1 y2 z0 z1 z2
  have HBX2 := Lib.hid hBx2
  clear hBx2
  have hx := hprA.out w2 HT2.out.toTxP
  obtain ⟨E, hE⟩ : ∃ E, E = valE a := ⟨_, rfl⟩
  rw [← hE] at hx
  have HEA := Lib.hid hE
  clear hE hprA
  go_wp2_with fail
  refine hx.mono ?_
  clear hx
  rintro e w3 ⟨rfl, hb3⟩
  have HBX3 := Lib.hid (HBX2.out.below hb3)
  have HT3 := Lib.hid (HT2.out.below hb3)
  have hB3 := hB2.trans (hb3.mono hB2.size)
  clear x0 x1 x2 HBX2 HT2 hB2 hb3
  by_cases hz : E = 0
  · have hp := hparA.out (by rw [← HEA.out]; exact hz) w3 HT3.out
    rw [errV_zero hz, if_pos hz]
    have hBx3 := HBX3.out
    -- the nine cells of the three boxes, in the world of hBx3
    have x0 := block_cell hBx3.1 0
    have x1 := block_cell hBx3.1 1
    have x2 := block_cell hBx3.1 2
    have y0 := block_cell hBx3.2.1 0
    have y1 := block_cell hBx3.2.1 1
    have y2 := block_cell hBx3.2.1 2
    have z0 := block_cell hBx3.2.2 0
    have z1 := block_cell hBx3.2.2 1
    have z2 := block_cell hBx3.2.2 2
    clear hz y0 y1 y2 z0 z1 z2 hBx3
    go_wp2_with fail
    refine hp.mono ?_
    clear hp
    rintro e w4 ⟨rfl, hb4⟩
    have ha4 : Below w4.heap.size w4 (w4.alloc (.cells #[.int .i64 a.ty, .int .i64 a.n, .string a.s] 34)) := (Below.refl _ _).alloc (Nat.le_refl _) _
    have x0 := cell_below ha4 (cell_below hb4 x0)
    have x1 := cell_below ha4 (cell_below hb4 x1)
    have x2 := cell_below ha4 (cell_below hb4 x2)
    have hb5 := hb4.trans (ha4.mono hb4.size)
    clear hb4 ha4
    go_upto_region 9 with fail
    generalize w4.alloc (.cells #[.int .i64 a.ty, .int .i64 a.n, .string a.s] 34) = w5 at *
    clear x0 x1 x2
    have HBX5 := Lib.hid (HBX3.out.below hb5)
    have HT5 := Lib.hid (HT3.out.below hb5)
    have hB5 := hB3.trans (hb5.mono hB3.size)
    clear HBX3 HT3 hB3 hb5
    have hx := hparS.out w5 HT5.out
    go_wp2_with fail
    refine hx.mono ?_
    clear hx
    rintro e w6 ⟨rfl, hb6⟩
    have ha6 : Below w6.heap.size w6 (w6.alloc (.cells #[.int .i64 (readV s.data.toList).ty, .int .i64 (readV s.data.toList).n, .string (readV s.data.toList).s] 34)) := (Below.refl _ _).alloc (Nat.le_refl _) _
    have hk6 := heap_alloc_new w6 (.cells #[.int .i64 (readV s.data.toList).ty, .int .i64 (readV s.data.toList).n, .string (readV s.data.toList).s] 34)
    have hb7 := hb6.trans (ha6.mono hb6.size)
    have HBX7 := Lib.hid (HBX5.out.below hb7)
    have HT7 := Lib.hid (HT5.out.below hb7)
    have hB7 := hB5.trans (hb7.mono hB5.size)
    clear HBX5 HT5 hB5 hb6 ha6 hb7
    obtain ⟨RE, hRE⟩ : ∃ RE, RE = readE s.data.toList := ⟨_, rfl⟩
    have HRE := Lib.hid hRE
    rw [← hRE]
    clear hRE
    by_cases hr : RE = 0
    · have hp := fun wx => hprS.out (by rw [← HRE.out]; exact hr) wx
      rw [errV_zero hr]
      clear hr
      generalize readV s.data.toList = rv at *
      have v0 := block_cell hk6 0
      have v1 := block_cell hk6 1
      have v2 := block_cell hk6 2
      clear hk6
      go_upto_region 11 with fail
      generalize w6.alloc (.cells #[.int .i64 rv.ty, .int .i64 rv.n, .string rv.s] 34) = w7 at *
      have hx := hp w7 HT7.out
      clear hp
      go_wp2_with fail
      refine hx.mono ?_
      clear hx
      rintro e w8 ⟨rfl, hb8⟩
      have hBx := HBX7.out.below hb8
      have hB8 := hB7.trans (hb8.mono hB7.size)
      have hss : (!s.toList == s.toList) = false := by simp
      clear v0 v1 v2 HBX7 HT7 hB7 hb8
      -- the nine cells of the three boxes, in the world of hBx
      have x0 := block_cell hBx.1 0
      have x1 := block_cell hBx.1 1
      have x2 := block_cell hBx.1 2
      have y0 := block_cell hBx.2.1 0
      have y1 := block_cell hBx.2.1 1
      have y2 := block_cell hBx.2.1 2
      have z0 := block_cell hBx.2.2 0
      have z1 := block_cell hBx.2.2 1
      have z2 := block_cell hBx.2.2 2
      have hx := hAB.out w8
      have hHB := Lib.hid hBx
      clear hBx HRE
      go_wp2_with fail
      refine hx.mono ?_
      clear hx x0 x1 x2 y0 y1 y2 z0 z1 z2
      rintro e w9 ⟨rfl, hb9⟩
      have hBx := hHB.out.below hb9
      have hB9 := hB8.trans (hb9.mono hB8.size)
      clear hHB hb9 hB8
      -- the nine cells of the three boxes, in the world of hBx
      have x0 := block_cell hBx.1 0
      have x1 := block_cell hBx.1 1
      have x2 := block_cell hBx.1 2
      have y0 := block_cell hBx.2.1 0
      have y1 := block_cell hBx.2.1 1
      have y2 := block_cell hBx.2.1 2
      have z0 := block_cell hBx.2.2 0
      have z1 := block_cell hBx.2.2 1
      have z2 := block_cell hBx.2.2 2
      have hx := hBC.out w9
      have hHB := Lib.hid hBx
      clear hBx
      go_wp2_with fail
      refine hx.mono ?_
      clear hx x0 x1 x2 y0 y1 y2 z0 z1 z2
      rintro e w10 ⟨rfl, hb10⟩
      have hBx := hHB.out.below hb10
      have hB10 := hB9.trans (hb10.mono hB9.size)
      clear hHB hb10 hB9
      -- the nine cells of the three boxes, in the world of hBx
      have x0 := block_cell hBx.1 0
      have x1 := block_cell hBx.1 1
      have x2 := block_cell hBx.1 2
      have y0 := block_cell hBx.2.1 0
      have y1 := block_cell hBx.2.1 1
      have y2 := block_cell hBx.2.1 2
      have z0 := block_cell hBx.2.2 0
      have z1 := block_cell hBx.2.2 1
      have z2 := block_cell hBx.2.2 2
      have hx := hAC.out w10
      have hHB := Lib.hid hBx
      clear hBx
      go_wp2_with fail
      refine hx.mono ?_
      clear hx x0 x1 x2 y0 y1 y2 z0 z1 z2
      rintro e w11 ⟨rfl, hb11⟩
      have hBx := hHB.out.below hb11
      have hB11 := hB10.trans (hb11.mono hB10.size)
      clear hHB hb11 hB10
      -- the nine cells of the three boxes, in the world of hBx
      have x0 := block_cell hBx.1 0
      have x1 := block_cell hBx.1 1
      have x2 := block_cell hBx.1 2
      have y0 := block_cell hBx.2.1 0
      have y1 := block_cell hBx.2.1 1
      have y2 := block_cell hBx.2.1 2
      have z0 := block_cell hBx.2.2 0
      have z1 := block_cell hBx.2.2 1
      have z2 := block_cell hBx.2.2 2
      have hx := hBA.out w11
      have hHB := Lib.hid hBx
      clear hBx
      go_wp2_with fail
      refine hx.mono ?_
      clear hx x0 x1 x2 y0 y1 y2 z0 z1 z2
      rintro e w12 ⟨rfl, hb12⟩
      have hBx := hHB.out.below hb12
      have hB12 := hB11.trans (hb12.mono hB11.size)
      clear hHB hb12 hB11
      by_cases h1 : cmpE2 a b = 0
      case neg =>
        rw [errV_some h1]
        clear h1 hOK
        go_wp2_with fail
        go_ret
        exact ⟨rfl, hB12⟩
      rw [errV_zero h1]
      by_cases h2 : cmpE2 b c = 0
      case neg =>
        rw [errV_some h2]
        clear h1 h2 hOK
        go_wp2_with fail
        go_ret
        exact ⟨rfl, hB12⟩
      obtain ⟨o1, o2, o3, o4, o5, o6, o7⟩ := hOK.out h1 h2
      rw [errV_zero h2, errV_zero o1, errV_zero o2, o3]
      -- the nine cells of the three boxes, in the world of hBx
      have x0 := block_cell hBx.1 0
      have x1 := block_cell hBx.1 1
      have x2 := block_cell hBx.1 2
      have y0 := block_cell hBx.2.1 0
      have y1 := block_cell hBx.2.1 1
      have y2 := block_cell hBx.2.1 2
      have z0 := block_cell hBx.2.2 0
      have z1 := block_cell hBx.2.2 1
      have z2 := block_cell hBx.2.2 2
      have HO4 := Lib.hid o4
      generalize cmpV2 a b = ci at *
      generalize cmpV2 b c = cj at *
      generalize cmpV2 a c = ck at *
      clear hOK h1 h2 o1 o2 o3 o4 hBx
      by_cases hab : a = b
      · have hc0 : ci = 0 := HO4.out.2 hab
        subst hab
        subst hc0
        go_wp2_with fail
        all_goals
          go_ret
          exact ⟨by first | rfl | (simp; omega), hB12⟩
      · have hc0 : ¬ ci = 0 := fun e => hab (HO4.out.1 e)
        have hc1 : (ci == 0) = false := by simpa using hc0
        have HAB : Hid (¬ (a.ty = b.ty ∧ a.n = b.n ∧ a.s.toList = b.s.toList)) := by
          rintro ⟨e1, e2, e3⟩
          rw [bytes_eq] at e3
          apply hab
          cases a
          cases b
          simp only at e1 e2 e3
          rw [e1, e2, e3]
        clear hab
        go_wp2_with fail
        all_goals first
          | (exfalso
             exact HAB.out ⟨by assumption, by assumption, by assumption⟩)
          | (go_ret
             exact ⟨by first | rfl | (simp; omega), hB12⟩)
    · rw [errV_some hr]
      clear hr
      go_upto_region 14 with fail
      generalize w6.alloc (.cells #[.int .i64 (readV s.data.toList).ty, .int .i64 (readV s.data.toList).n, .string (readV s.data.toList).s] 34) = w8 at *
      have hBx := HBX7.out
      have hB8 := hB7
      clear hk6 HBX7 HT7 hB7
      -- the nine cells of the three boxes, in the world of hBx
      have x0 := block_cell hBx.1 0
      have x1 := block_cell hBx.1 1
      have x2 := block_cell hBx.1 2
      have y0 := block_cell hBx.2.1 0
      have y1 := block_cell hBx.2.1 1
      have y2 := block_cell hBx.2.1 2
      have z0 := block_cell hBx.2.2 0
      have z1 := block_cell hBx.2.2 1
      have z2 := block_cell hBx.2.2 2
      have hx := hAB.out w8
      have hHB := Lib.hid hBx
      clear hBx HRE
      go_wp2_with fail
      refine hx.mono ?_
      clear hx x0 x1 x2 y0 y1 y2 z0 z1 z2
      rintro e w9 ⟨rfl, hb9⟩
      have hBx := hHB.out.below hb9
      have hB9 := hB8.trans (hb9.mono hB8.size)
      clear hHB hb9 hB8
      -- the nine cells of the three boxes, in the world of hBx
      have x0 := block_cell hBx.1 0
      have x1 := block_cell hBx.1 1
      have x2 := block_cell hBx.1 2
      have y0 := block_cell hBx.2.1 0
      have y1 := block_cell hBx.2.1 1
      have y2 := block_cell hBx.2.1 2
      have z0 := block_cell hBx.2.2 0
      have z1 := block_cell hBx.2.2 1
      have z2 := block_cell hBx.2.2 2
      have hx := hBC.out w9
      have hHB := Lib.hid hBx
      clear hBx
      go_wp2_with fail
      refine hx.mono ?_
      clear hx x0 x1 x2 y0 y1 y2 z0 z1 z2
      rintro e w10 ⟨rfl, hb10⟩
      have hBx := hHB.out.below hb10
      have hB10 := hB9.trans (hb10.mono hB9.size)
      clear hHB hb10 hB9
      -- the nine cells of the three boxes, in the world of hBx
      have x0 := block_cell hBx.1 0
      have x1 := block_cell hBx.1 1
      have x2 := block_cell hBx.1 2
      have y0 := block_cell hBx.2.1 0
      have y1 := block_cell hBx.2.1 1
      have y2 := block_cell hBx.2.1 2
      have z0 := block_cell hBx.2.2 0
      have z1 := block_cell hBx.2.2 1
      have z2 := block_cell hBx.2.2 2
      have hx := hAC.out w10
      have hHB := Lib.hid hBx
      clear hBx
      go_wp2_with fail
      refine hx.mono ?_
      clear hx x0 x1 x2 y0 y1 y2 z0 z1 z2
      rintro e w11 ⟨rfl, hb11⟩
      have hBx := hHB.out.below hb11
      have hB11 := hB10.trans (hb11.mono hB10.size)
      clear hHB hb11 hB10
      -- the nine cells of the three boxes, in the world of hBx
      have x0 := block_cell hBx.1 0
      have x1 := block_cell hBx.1 1
      have x2 := block_cell hBx.1 2
      have y0 := block_cell hBx.2.1 0
      have y1 := block_cell hBx.2.1 1
      have y2 := block_cell hBx.2.1 2
      have z0 := block_cell hBx.2.2 0
      have z1 := block_cell hBx.2.2 1
      have z2 := block_cell hBx.2.2 2
      have hx := hBA.out w11
      have hHB := Lib.hid hBx
      clear hBx
      go_wp2_with fail
      refine hx.mono ?_
      clear hx x0 x1 x2 y0 y1 y2 z0 z1 z2
      rintro e w12 ⟨rfl, hb12⟩
      have hBx := hHB.out.below hb12
      have hB12 := hB11.trans (hb12.mono hB11.size)
      clear hHB hb12 hB11
      by_cases h1 : cmpE2 a b = 0
      case neg =>
        rw [errV_some h1]
        clear h1 hOK
        go_wp2_with fail
        go_ret
        exact ⟨rfl, hB12⟩
      rw [errV_zero h1]
      by_cases h2 : cmpE2 b c = 0
      case neg =>
        rw [errV_some h2]
        clear h1 h2 hOK
        go_wp2_with fail
        go_ret
        exact ⟨rfl, hB12⟩
      obtain ⟨o1, o2, o3, o4, o5, o6, o7⟩ := hOK.out h1 h2
      rw [errV_zero h2, errV_zero o1, errV_zero o2, o3]
      -- the nine cells of the three boxes, in the world of hBx
      have x0 := block_cell hBx.1 0
      have x1 := block_cell hBx.1 1
      have x2 := block_cell hBx.1 2
      have y0 := block_cell hBx.2.1 0
      have y1 := block_cell hBx.2.1 1
      have y2 := block_cell hBx.2.1 2
      have z0 := block_cell hBx.2.2 0
      have z1 := block_cell hBx.2.2 1
      have z2 := block_cell hBx.2.2 2
      have HO4 := Lib.hid o4
      generalize cmpV2 a b = ci at *
      generalize cmpV2 b c = cj at *
      generalize cmpV2 a c = ck at *
      clear hOK h1 h2 o1 o2 o3 o4 hBx
      by_cases hab : a = b
      · have hc0 : ci = 0 := HO4.out.2 hab
        subst hab
        subst hc0
        go_wp2_with fail
        all_goals
          go_ret
          exact ⟨by first | rfl | (simp; omega), hB12⟩
      · have hc0 : ¬ ci = 0 := fun e => hab (HO4.out.1 e)
        have hc1 : (ci == 0) = false := by simpa using hc0
        have HAB : Hid (¬ (a.ty = b.ty ∧ a.n = b.n ∧ a.s.toList = b.s.toList)) := by
          rintro ⟨e1, e2, e3⟩
          rw [bytes_eq] at e3
          apply hab
          cases a
          cases b
          simp only at e1 e2 e3
          rw [e1, e2, e3]
        clear hab
        go_wp2_with fail
        all_goals first
          | (exfalso
             exact HAB.out ⟨by assumption, by assumption, by assumption⟩)
          | (go_ret
             exact ⟨by first | rfl | (simp; omega), hB12⟩)
  · rw [errV_some hz, if_neg hz]
    have hb5 := Below.refl w3.heap.size w3
    obtain ⟨w5, hw5⟩ : ∃ w5 : World, w5 = w3 := ⟨_, rfl⟩
    have hb5 : Below w3.heap.size w3 w5 := by rw [hw5]; exact hb5
    clear hz
    go_upto_region 9 with fail
    rw [← hw5]
    clear hw5
    have HBX5 := Lib.hid (HBX3.out.below hb5)
    have HT5 := Lib.hid (HT3.out.below hb5)
    have hB5 := hB3.trans (hb5.mono hB3.size)
    clear HBX3 HT3 hB3 hb5
    have hx := hparS.out w5 HT5.out
    go_wp2_with fail
    refine hx.mono ?_
    clear hx
    rintro e w6 ⟨rfl, hb6⟩
    have ha6 : Below w6.heap.size w6 (w6.alloc (.cells #[.int .i64 (readV s.data.toList).ty, .int .i64 (readV s.data.toList).n, .string (readV s.data.toList).s] 34)) := (Below.refl _ _).alloc (Nat.le_refl _) _
    have hk6 := heap_alloc_new w6 (.cells #[.int .i64 (readV s.data.toList).ty, .int .i64 (readV s.data.toList).n, .string (readV s.data.toList).s] 34)
    have hb7 := hb6.trans (ha6.mono hb6.size)
    have HBX7 := Lib.hid (HBX5.out.below hb7)
    have HT7 := Lib.hid (HT5.out.below hb7)
    have hB7 := hB5.trans (hb7.mono hB5.size)
    clear HBX5 HT5 hB5 hb6 ha6 hb7
    obtain ⟨RE, hRE⟩ : ∃ RE, RE = readE s.data.toList := ⟨_, rfl⟩
    have HRE := Lib.hid hRE
    rw [← hRE]
    clear hRE
    by_cases hr : RE = 0
    · have hp := fun wx => hprS.out (by rw [← HRE.out]; exact hr) wx
      rw [errV_zero hr]
      clear hr
      generalize readV s.data.toList = rv at *
      have v0 := block_cell hk6 0
      have v1 := block_cell hk6 1
      have v2 := block_cell hk6 2
      clear hk6
      go_upto_region 11 with fail
      generalize w6.alloc (.cells #[.int .i64 rv.ty, .int .i64 rv.n, .string rv.s] 34) = w7 at *
      have hx := hp w7 HT7.out
      clear hp
      go_wp2_with fail
      refine hx.mono ?_
      clear hx
      rintro e w8 ⟨rfl, hb8⟩
      have hBx := HBX7.out.below hb8
      have hB8 := hB7.trans (hb8.mono hB7.size)
      have hss : (!s.toList == s.toList) = false := by simp
      clear v0 v1 v2 HBX7 HT7 hB7 hb8
      -- the nine cells of the three boxes, in the world of hBx
      have x0 := block_cell hBx.1 0
      have x1 := block_cell hBx.1 1
      have x2 := block_cell hBx.1 2
      have y0 := block_cell hBx.2.1 0
      have y1 := block_cell hBx.2.1 1
      have y2 := block_cell hBx.2.1 2
      have z0 := block_cell hBx.2.2 0
      have z1 := block_cell hBx.2.2 1
      have z2 := block_cell hBx.2.2 2
      have hx := hAB.out w8
      have hHB := Lib.hid hBx
      clear hBx HRE
      go_wp2_with fail
      refine hx.mono ?_
      clear hx x0 x1 x2 y0 y1 y2 z0 z1 z2
      rintro e w9 ⟨rfl, hb9⟩
      have hBx := hHB.out.below hb9
      have hB9 := hB8.trans (hb9.mono hB8.size)
      clear hHB hb9 hB8
      -- the nine cells of the three boxes, in the world of hBx
      have x0 := block_cell hBx.1 0
      have x1 := block_cell hBx.1 1
      have x2 := block_cell hBx.1 2
      have y0 := block_cell hBx.2.1 0
      have y1 := block_cell hBx.2.1 1
      have y2 := block_cell hBx.2.1 2
      have z0 := block_cell hBx.2.2 0
      have z1 := block_cell hBx.2.2 1
      have z2 := block_cell hBx.2.2 2
      have hx := hBC.out w9
      have hHB := Lib.hid hBx
      clear hBx
      go_wp2_with fail
      refine hx.mono ?_
      clear hx x0 x1 x2 y0 y1 y2 z0 z1 z2
      rintro e w10 ⟨rfl, hb10⟩
      have hBx := hHB.out.below hb10
      have hB10 := hB9.trans (hb10.mono hB9.size)
      clear hHB hb10 hB9
      -- the nine cells of the three boxes, in the world of hBx
      have x0 := block_cell hBx.1 0
      have x1 := block_cell hBx.1 1
      have x2 := block_cell hBx.1 2
      have y0 := block_cell hBx.2.1 0
      have y1 := block_cell hBx.2.1 1
      have y2 := block_cell hBx.2.1 2
      have z0 := block_cell hBx.2.2 0
      have z1 := block_cell hBx.2.2 1
      have z2 := block_cell hBx.2.2 2
      have hx := hAC.out w10
      have hHB := Lib.hid hBx
      clear hBx
      go_wp2_with fail
      refine hx.mono ?_
      clear hx x0 x1 x2 y0 y1 y2 z0 z1 z2
      rintro e w11 ⟨rfl, hb11⟩
      have hBx := hHB.out.below hb11
      have hB11 := hB10.trans (hb11.mono hB10.size)
      clear hHB hb11 hB10
      -- the nine cells of the three boxes, in the world of hBx
      have x0 := block_cell hBx.1 0
      have x1 := block_cell hBx.1 1
      have x2 := block_cell hBx.1 2
      have y0 := block_cell hBx.2.1 0
      have y1 := block_cell hBx.2.1 1
      have y2 := block_cell hBx.2.1 2
      have z0 := block_cell hBx.2.2 0
      have z1 := block_cell hBx.2.2 1
      have z2 := block_cell hBx.2.2 2
      have hx := hBA.out w11
      have hHB := Lib.hid hBx
      clear hBx
      go_wp2_with fail
      refine hx.mono ?_
      clear hx x0 x1 x2 y0 y1 y2 z0 z1 z2
      rintro e w12 ⟨rfl, hb12⟩
      have hBx := hHB.out.below hb12
      have hB12 := hB11.trans (hb12.mono hB11.size)
      clear hHB hb12 hB11
      by_cases h1 : cmpE2 a b = 0
      case neg =>
        rw [errV_some h1]
        clear h1 hOK
        go_wp2_with fail
        go_ret
        exact ⟨rfl, hB12⟩
      rw [errV_zero h1]
      by_cases h2 : cmpE2 b c = 0
      case neg =>
        rw [errV_some h2]
        clear h1 h2 hOK
        go_wp2_with fail
        go_ret
        exact ⟨rfl, hB12⟩
      obtain ⟨o1, o2, o3, o4, o5, o6, o7⟩ := hOK.out h1 h2
      rw [errV_zero h2, errV_zero o1, errV_zero o2, o3]
      -- the nine cells of the three boxes, in the world of hBx
      have x0 := block_cell hBx.1 0
      have x1 := block_cell hBx.1 1
      have x2 := block_cell hBx.1 2
      have y0 := block_cell hBx.2.1 0
      have y1 := block_cell hBx.2.1 1
      have y2 := block_cell hBx.2.1 2
      have z0 := block_cell hBx.2.2 0
      have z1 := block_cell hBx.2.2 1
      have z2 := block_cell hBx.2.2 2
      have HO4 := Lib.hid o4
      generalize cmpV2 a b = ci at *
      generalize cmpV2 b c = cj at *
      generalize cmpV2 a c = ck at *
      clear hOK h1 h2 o1 o2 o3 o4 hBx
      by_cases hab : a = b
      · have hc0 : ci = 0 := HO4.out.2 hab
        subst hab
        subst hc0
        go_wp2_with fail
        all_goals
          go_ret
          exact ⟨by first | rfl | (simp; omega), hB12⟩
      · have hc0 : ¬ ci = 0 := fun e => hab (HO4.out.1 e)
        have hc1 : (ci == 0) = false := by simpa using hc0
        have HAB : Hid (¬ (a.ty = b.ty ∧ a.n = b.n ∧ a.s.toList = b.s.toList)) := by
          rintro ⟨e1, e2, e3⟩
          rw [bytes_eq] at e3
          apply hab
          cases a
          cases b
          simp only at e1 e2 e3
          rw [e1, e2, e3]
        clear hab
        go_wp2_with fail
        all_goals first
          | (exfalso
             exact HAB.out ⟨by assumption, by assumption, by assumption⟩)
          | (go_ret
             exact ⟨by first | rfl | (simp; omega), hB12⟩)
    · rw [errV_some hr]
      clear hr
      go_upto_region 14 with fail
      generalize w6.alloc (.cells #[.int .i64 (readV s.data.toList).ty, .int .i64 (readV s.data.toList).n, .string (readV s.data.toList).s] 34) = w8 at *
      have hBx := HBX7.out
      have hB8 := hB7
      clear hk6 HBX7 HT7 hB7
      -- the nine cells of the three boxes, in the world of hBx
      have x0 := block_cell hBx.1 0
      have x1 := block_cell hBx.1 1
      have x2 := block_cell hBx.1 2
      have y0 := block_cell hBx.2.1 0
      have y1 := block_cell hBx.2.1 1
      have y2 := block_cell hBx.2.1 2
      have z0 := block_cell hBx.2.2 0
      have z1 := block_cell hBx.2.2 1
      have z2 := block_cell hBx.2.2 2
      have hx := hAB.out w8
      have hHB := Lib.hid hBx
      clear hBx HRE
      go_wp2_with fail
      refine hx.mono ?_
      clear hx x0 x1 x2 y0 y1 y2 z0 z1 z2
      rintro e w9 ⟨rfl, hb9⟩
      have hBx := hHB.out.below hb9
      have hB9 := hB8.trans (hb9.mono hB8.size)
      clear hHB hb9 hB8
      -- the nine cells of the three boxes, in the world of hBx
      have x0 := block_cell hBx.1 0
      have x1 := block_cell hBx.1 1
      have x2 := block_cell hBx.1 2
      have y0 := block_cell hBx.2.1 0
      have y1 := block_cell hBx.2.1 1
      have y2 := block_cell hBx.2.1 2
      have z0 := block_cell hBx.2.2 0
      have z1 := block_cell hBx.2.2 1
      have z2 := block_cell hBx.2.2 2
      have hx := hBC.out w9
      have hHB := Lib.hid hBx
      clear hBx
      go_wp2_with fail
      refine hx.mono ?_
      clear hx x0 x1 x2 y0 y1 y2 z0 z1 z2
      rintro e w10 ⟨rfl, hb10⟩
      have hBx := hHB.out.below hb10
      have hB10 := hB9.trans (hb10.mono hB9.size)
      clear hHB hb10 hB9
      -- the nine cells of the three boxes, in the world of hBx
      have x0 := block_cell hBx.1 0
      have x1 := block_cell hBx.1 1
      have x2 := block_cell hBx.1 2
      have y0 := block_cell hBx.2.1 0
      have y1 := block_cell hBx.2.1 1
      have y2 := block_cell hBx.2.1 2
      have z0 := block_cell hBx.2.2 0
      have z1 := block_cell hBx.2.2 1
      have z2 := block_cell hBx.2.2 2
      have hx := hAC.out w10
      have hHB := Lib.hid hBx
      clear hBx
      go_wp2_with fail
      refine hx.mono ?_
      clear hx x0 x1 x2 y0 y1 y2 z0 z1 z2
      rintro e w11 ⟨rfl, hb11⟩
      have hBx := hHB.out.below hb11
      have hB11 := hB10.trans (hb11.mono hB10.size)
      clear hHB hb11 hB10
      -- the nine cells of the three boxes, in the world of hBx
      have x0 := block_cell hBx.1 0
      have x1 := block_cell hBx.1 1
      have x2 := block_cell hBx.1 2
      have y0 := block_cell hBx.2.1 0
      have y1 := block_cell hBx.2.1 1
      have y2 := block_cell hBx.2.1 2
      have z0 := block_cell hBx.2.2 0
      have z1 := block_cell hBx.2.2 1
      have z2 := block_cell hBx.2.2 2
      have hx := hBA.out w11
      have hHB := Lib.hid hBx
      clear hBx
      go_wp2_with fail
      refine hx.mono ?_
      clear hx x0 x1 x2 y0 y1 y2 z0 z1 z2
      rintro e w12 ⟨rfl, hb12⟩
      have hBx := hHB.out.below hb12
      have hB12 := hB11.trans (hb12.mono hB11.size)
      clear hHB hb12 hB11
      by_cases h1 : cmpE2 a b = 0
      case neg =>
        rw [errV_some h1]
        clear h1 hOK
        go_wp2_with fail
        go_ret
        exact ⟨rfl, hB12⟩
      rw [errV_zero h1]
      by_cases h2 : cmpE2 b c = 0
      case neg =>
        rw [errV_some h2]
        clear h1 h2 hOK
        go_wp2_with fail
        go_ret
        exact ⟨rfl, hB12⟩
      obtain ⟨o1, o2, o3, o4, o5, o6, o7⟩ := hOK.out h1 h2
      rw [errV_zero h2, errV_zero o1, errV_zero o2, o3]
      -- the nine cells of the three boxes, in the world of hBx
      have x0 := block_cell hBx.1 0
      have x1 := block_cell hBx.1 1
      have x2 := block_cell hBx.1 2
      have y0 := block_cell hBx.2.1 0
      have y1 := block_cell hBx.2.1 1
      have y2 := block_cell hBx.2.1 2
      have z0 := block_cell hBx.2.2 0
      have z1 := block_cell hBx.2.2 1
      have z2 := block_cell hBx.2.2 2
      have HO4 := Lib.hid o4
      generalize cmpV2 a b = ci at *
      generalize cmpV2 b c = cj at *
      generalize cmpV2 a c = ck at *
      clear hOK h1 h2 o1 o2 o3 o4 hBx
      by_cases hab : a = b
      · have hc0 : ci = 0 := HO4.out.2 hab
        subst hab
        subst hc0
        go_wp2_with fail
        all_goals
          go_ret
          exact ⟨by first | rfl | (simp; omega), hB12⟩
      · have hc0 : ¬ ci = 0 := fun e => hab (HO4.out.1 e)
        have hc1 : (ci == 0) = false := by simpa using hc0
        have HAB : Hid (¬ (a.ty = b.ty ∧ a.n = b.n ∧ a.s.toList = b.s.toList)) := by
          rintro ⟨e1, e2, e3⟩
          rw [bytes_eq] at e3
          apply hab
          cases a
          cases b
          simp only at e1 e2 e3
          rw [e1, e2, e3]
        clear hab
        go_wp2_with fail
        all_goals first
          | (exfalso
             exact HAB.out ⟨by assumption, by assumption, by assumption⟩)
          | (go_ret
             exact ⟨by first | rfl | (simp; omega), hB12⟩)
end Go.Proofs.YtmbeeaohidgfgaaDoor
