/- Parts: SpB. -/
import Derived.Test.YtfeccicogcnhcaaGreatDoorMg10
import Derived.Test.YtfeccicogcnhcaaGreatDoorMg20
import Derived.Test.YtfeccicogcnhcaaGreatDoorMg13
import Derived.Test.YtfeccicogcnhcaaGreatDoorMg18
import Derived.RangeFuncCalls
/- Contract: schema.Parse: a text as a schema. Conditions: what the library's texts lean on (TxOk); the types' names are laid; the text is not too long. -/
namespace Go.Proofs.YtfeccicogcnhcaaGreatDoor
open Go Go.RowKit Go.Shelf

attribute [local go_sem] Oper.semAt_some
theorem knd_info3 : (Tryz.prog.info? 59).map (fun i => (i.zero, i.size, i.bytes)) = some (some (.agg #[.string .empty, .slice none 0 0, .slice none 0 0]), 3, 64) := by kernel_rfl
theorem bnd_info3 : (Tryz.prog.info? 40).map (fun i => (i.zero, i.size, i.bytes)) = some (some (.agg #[.string .empty, .string .empty, .string .empty, .int .i64 0, .int .i64 0]), 5, 64) := by kernel_rfl
theorem lineS_head {g : Scm} {x x0 : List UInt8} {sf : Bool} {P : List (List UInt8)} (h1 : Lib.hasSuffix x [10] = sf) (h2 : Lib.split (Lib.trimSuffix x [10]) [32] = P) (h3 : P.head? = some x0) :
    lineS g x = if sf = true then (if x0 = kindW ∧ g.bonds.length = 0 then (readKndL P).map fun k => ⟨g.kinds ++ [k], g.bonds⟩ else if x0 = bondW then (readBndL P).map fun b => ⟨g.kinds, g.bonds ++ [b]⟩ else none) else none := by
  rw [lineS_eq h1 h2, h3]; simp only [Option.some.injEq]
theorem split_head (l : List UInt8) : ∃ x0 r, Lib.split l [32] = x0 :: r := by
  cases h : Lib.split l [32] with
  | nil => exact absurd h (split_ne 32 l)
  | cons a r => exact ⟨a, r, rfl⟩
theorem own_cells {w : World} {B g m : Nat} {P : List (List UInt8)} {b : Nat} (h : Own w B 9 1 (.slice (some ⟨g, 0, none⟩) m m) m ((P.map bs).map Value.string)) (hb : ∀ x ∈ P, x.length ≤ b) : ∀ i x, P[i]? = some x → w.cell? ⟨g, i, none⟩ = some (.string (bs x)) ∧ x.length ≤ b := fun i x hx => by
  have h1 := h.cell rfl (j := i) (u := .string (bs x)) (by rw [List.getElem?_map, List.getElem?_map, hx]; rfl)
  rw [Nat.zero_add] at h1
  exact ⟨h1, hb x (List.mem_of_getElem? hx)⟩
set_option maxRecDepth 100000 in
set_option maxHeartbeats 16000000 in
theorem sparse_any (s : ByteArray) (hs : Sm s) (w : World) (hT : TxOk w) (hY : Typ4 w) :
    Calls Tryz.prog 10 #[.string s] w fun e w' => ∃ vn vt, e = .returned (.tuple #[.agg #[vn, vt], .int .i64 (readSN s.data.toList : Nat), errV (readSE s.data.toList)]) ∧ ScmR w' vn vt (readSV s.data.toList) ∧ Below w.heap.size w w' := by
  have HT := Lib.hid hT
  have HY := Lib.hid hY
  have hle := len_size s
  obtain ⟨l, hl⟩ : ∃ l, l = s.data.toList := ⟨_, rfl⟩
  rw [← hl]
  refine (callsIn_wide (n := 5)).1 ?_
  refine callsIn_of_wp_marks Tryz.func10 rfl trivial ?_ rfl
  simp only [Tryz.ntmps10, List.size_toArray, List.length_cons, List.length_nil, Nat.reduceAdd, Nat.reduceSub, Array.replicate_succ, Array.replicate_zero, List.push_toArray, List.append_toArray, List.nil_append, List.cons_append]
  gi_wp2_with (refine ⟨trivial, ?_⟩; gi_at_call 33; refine (lines_in _ _ _).mono ?_; rintro e w' ⟨rfl, rfl⟩)
  obtain ⟨q0, q1, q2, q3, q4, q5, hBr, hsz⟩ := six_new w (.cells #[.slice none 0 0, .slice none 0 0] 25) (.cells #[.int .i64 0] 3) (.cells #[.nilIface] 29) (.cells #[.slice none 0 0, .slice none 0 0] 25) (.cells #[.int .i64 0] 3) (.cells #[.string s] 9)
  generalize ((((((w.alloc (.cells #[.slice none 0 0, .slice none 0 0] 25)).alloc (.cells #[.int .i64 0] 3)).alloc (.cells #[.nilIface] 29)).alloc (.cells #[.slice none 0 0, .slice none 0 0] 25)).alloc (.cells #[.int .i64 0] 3)).alloc (.cells #[.string s] 9)) = W0 at *
  have hsl : s = bs l := by rw [hl, bs_of]
  have hll : l.length ≤ 1048576 := by rw [hl, hle]; exact hs
  have HS0 := Lib.hid hsz
  have hR0 : RdS w.heap.size ⟨[], []⟩ none none 0 0 [] [] W0 := ⟨q0, q1, q2, q3, q4, ⟨_, q5⟩, Own.nil _ _ _ _, rfl, Own.nil _ _ _ _, (fun _ h => by cases h), (fun _ => rfl), by rw [hsz]; omega⟩
  have hseq := lines1_in 4 (by omega) w.heap.size (w.heap.size + 1 + 1 + 1 + 1 + 1) (by omega) l hll W0 (by rw [← hsl]; exact q5) hBr.size
  clear q0 q1 q2 q3 q4 q5 hle hT hY
  have HSEQ := Lib.hid hseq
  have HR0 := Lib.hid hR0
  have HL := Lib.hid hl
  have HB0 := Lib.hid hBr
  clear hseq hR0 hsz hsl hl
  refine wpIn_rangeFunc_stirs rfl (by decide) (gf := 52) (lb := #[.pointer (some ⟨w.heap.size + 1 + 1 + 1 + 1 + 1, 0, none⟩)]) rfl trivial (enters_of Tryz.func52 (by kernel_rfl) rfl) HSEQ.out (Below.refl _ _)
    (fun h k => ⟨h.1.trans k.1, k.2.trans h.2⟩)
    (fun W k o o' hk h h1 h2 => ⟨belowK_b hBr.size W k o o' hk h h1 h2, World.putObj_heap_other (by rw [HS0.out] at hk; omega)⟩)
    (fun X Y hs k o hk h h1 => by
      rcases hs with ⟨m, rfl⟩ | ⟨v, m, rfl⟩
      · exact h
      · exact setCell_other h (by rw [HS0.out] at hk; omega) _ _)
    (fun _ => rfl)
    (fun (pre : List Ln) W => (∃ g An At cn ct xs, RdS w.heap.size g An At cn ct xs (lnL pre) W ∧ g.kinds.length + g.bonds.length ≤ pre.length) ∧ Below w.heap.size w W)
    (fun c (pre : List Ln) W => c = .ret ∧ RxS w.heap.size (lnL pre) W ∧ Below w.heap.size w W)
    (fun pre X Y row hs hg hr => ⟨(by obtain ⟨g, An, At, cn, ct, xs, h, hc⟩ := hs.1; exact ⟨g, An, At, cn, ct, xs, h.all (.grown hg fun r e => (hr r e).2), hc⟩), hs.2.grown hg hs.2.size (fun k e => by have := (hr k e).1; rw [HS0.out] at this; omega)⟩)
    (fun pre X Y hs hr => ⟨(by obtain ⟨g, An, At, cn, ct, xs, h, hc⟩ := hs.1; exact ⟨g, An, At, cn, ct, xs, h.step hr, hc⟩), (by
      rcases hr with ⟨m, rfl⟩ | ⟨v, m, rfl⟩
      · exact Go.below_drewN hs.2 m
      · exact Go.below_drewN (hs.2.setCell (p := ⟨w.heap.size + 1 + 1 + 1 + 1 + 1, 0, none⟩) (by show w.heap.size ≤ w.heap.size + 1 + 1 + 1 + 1 + 1; omega) v) m)⟩)
    (fun c pre X Y row hs hg hr => ⟨hs.1, hs.2.1.all (.grown hg fun r e => (hr r e).2), hs.2.2.grown hg hs.2.2.size (fun k e => by have := (hr k e).1; rw [HS0.out] at this; omega)⟩)
    (fun c pre X Y hs hr => ⟨hs.1, hs.2.1.step hr, (by
      rcases hr with ⟨m, rfl⟩ | ⟨v, m, rfl⟩
      · exact Go.below_drewN hs.2.2 m
      · exact Go.below_drewN (hs.2.2.setCell (p := ⟨w.heap.size + 1 + 1 + 1 + 1 + 1, 0, none⟩) (by show w.heap.size ≤ w.heap.size + 1 + 1 + 1 + 1 + 1; omega) v) m)⟩)
    ⟨⟨_, _, _, _, _, _, HR0.out, Nat.le_refl _⟩, hBr⟩
    ?a1 ?assign ?body ?done ?stop
  case assign =>
    intro lr x W K hK
    gi_wp2
    exact hK
  case body =>
    rintro lr pre x W hsp ⟨⟨g, An, At, cn, ct, xs, hR, hcnt⟩, hB⟩
    have HT1 := Lib.hid (HT.out.below hB)
    have HLL : Hid (l.length ≤ 1048576) := hll
    have hpl : pre.length + 1 ≤ 1048576 := by
      have h1 := hsp.length_le
      have h2 := lines_len l
      rw [lnL_len, List.length_append] at h1
      simp at h1
      omega
    have HCN : Hid (g.kinds.length + g.bonds.length ≤ pre.length) := hcnt
    have HSP := Lib.hid hsp
    obtain ⟨y, hy⟩ := x
    have hys : (bs y).size ≤ 1048576 := by rw [bs_size]; exact hy
    have htl := trim_len y
    have hx := tx_cutSuffix (bs y) 10 W (by omega)
    rw [bs_list] at hx
    have hxc := tx_split_own (bs (Lib.trimSuffix y [10])) 32 W HT1.out.toTxP (by unfold Sm; rw [bs_size]; omega)
    rw [bs_list] at hxc
    obtain ⟨hsl1, hsl2⟩ := split_len 32 _ (Lib.trimSuffix y [10]) (Nat.le_refl _)
    obtain ⟨x0, xr, hxr⟩ := split_head (Lib.trimSuffix y [10])
    have HLT := fun (sf : Bool) P h1 h2 h3 => Lib.hid (lineS_head (g := g) (x := y) (x0 := x0) (sf := sf) (P := P) h1 h2 h3)
    have hPL : ∀ x ∈ Lib.split (Lib.trimSuffix y [10]) [32], x.length ≤ 1048576 := fun x hx => by have := hsl1 x hx; omega
    generalize hsf : Lib.hasSuffix y [10] = sf at *
    generalize hP : Lib.split (Lib.trimSuffix y [10]) [32] = P at *
    have HLT := HLT sf P rfl rfl (by rw [hxr]; rfl)
    obtain ⟨m, hm⟩ : ∃ m, m = P.length := ⟨_, rfl⟩
    rw [← hm] at hxc
    have hm0 : (0 : Int) < (m : Int) := by rw [hm, hxr]; simp
    have hmb : m ≤ 1048577 := by omega
    have hP0 : P[0]? = some x0 := by rw [hxr]; rfl
    have HP0 := Lib.hid hP0
    have HPL := Lib.hid hPL
    have HXN : Hid (∀ wx, TxOk wx → Typ4 wx → (∀ i x, P[i]? = some x → wx.cell? ⟨W.heap.size, i, none⟩ = some (.string (bs x)) ∧ x.length ≤ 1048576) → Calls Tryz.prog 36 #[.slice (some ⟨W.heap.size, 0, none⟩) m m] wx (KndR P wx)) := fun wx h1 h2 h3 => rknd_any P W.heap.size m wx hm.symm h3 hmb h1 h2
    have HXT : Hid (∀ wx, TxOk wx → (∀ i x, P[i]? = some x → wx.cell? ⟨W.heap.size, i, none⟩ = some (.string (bs x)) ∧ x.length ≤ 1048576) → Calls Tryz.prog 37 #[.slice (some ⟨W.heap.size, 0, none⟩) m m] wx (BndR P wx)) := fun wx h1 h3 => rbnd_any P W.heap.size m wx hm.symm h3 hmb h1
    have HY1 := Lib.hid (HY.out.below hB)
    obtain ⟨i0, ei, ez, ez1, ez2⟩ := info_parts knd_info3
    obtain ⟨j0, fi, fz, fz1, fz2⟩ := info_parts bnd_info3
    have hpn : ((lnL pre).length : Int) + 1 ≤ 1048576 := by rw [lnL_len]; omega
    have e1 : (bs kindW).toList = [107, 105, 110, 100] := by decide +kernel
    have e2 : (bs bondW).toList = [98, 111, 110, 100] := by decide +kernel
    have q1 := bs_lit (K := x0) e1
    have q2 := bs_lit (K := x0) e2
    have HW0 : Hid (w.heap.size + 6 ≤ W0.heap.size) := by unfold Hid; rw [HS0.out]; exact Nat.le_refl _
    clear hcnt hsp hll hsf hP hxr hm hsl1 hsl2 hP0 hPL htl e1 e2 hys
    by_cases hkn : x0 = kindW
    · have b1 : (bs x0).toList = [107, 105, 110, 100] := by rw [q1]; exact hkn
      have b1' : ((bs x0).toList == [107, 105, 110, 100]) = true := by simpa using b1
      by_cases ht0 : g.bonds.length = 0
      · have ht0' : (g.bonds.length : Int) = 0 := by omega
        have HLN : Hid (lineS g y = if sf = true then (readKndL P).map (fun n => (⟨g.kinds ++ [n], g.bonds⟩ : Scm)) else none) := by unfold Hid; rw [HLT.out, if_pos (c := x0 = kindW ∧ g.bonds.length = 0) ⟨hkn, ht0⟩]
        clear HLT HXT q1 q2 hkn ht0
        cases sf with
        | false =>
          have HN : Hid (lineS g y = none) := HLN.out
          clear HLN
          gi_wp2_with (first
            | (refine ⟨trivial, ?_⟩; gi_at_call 34; refine (CallsIn.inRound lr ((callsIn_wide (n := _)).2 hx)).mono ?_; rintro e w9 ⟨rfl, hw⟩; have hw := hw.symm; subst hw; clear hx)
            | (refine ⟨trivial, ?_⟩; gi_at_call 35; refine (CallsIn.inRound lr ((callsIn_wide (n := _)).2 hxc)).mono ?_; rintro e W2 ⟨rfl, hOw, hb2⟩; have HR2 := Lib.hid (hR.all (.below hb2)); have HCC := Lib.hid (own_cells hOw HPL.out); have pc0 := (HCC.out 0 x0 HP0.out).1; clear hOw; have y0 := block_cell HR2.out.gb 0; have y1 := block_cell HR2.out.gb 1; clear hxc)
            | (refine ⟨trivial, ?_⟩; gi_at_call 36; refine (CallsIn.inRound lr ((callsIn_wide (n := _)).2 (HXN.out _ (HT1.out.below hb2) (HY1.out.below hb2) HCC.out))).mono ?_; clear pc0; rintro e W3 ⟨nm, Au, nu, cu, Af, nf, cf, rfl, hnd, hb3⟩; have HND := Lib.hid hnd; have hbV : Below W3.heap.size W3 ((W3.alloc (.cells #[.string nm, .slice Au nu cu, .slice Af nf cf] 59)).alloc (.cells #[.string nm, .slice Au nu cu, .slice Af nf cf] 59)) := ((Below.refl _ _).alloc (Nat.le_refl _) _).alloc (by simp) _; have HR3 := Lib.hid (HR2.out.all (.below hb3)); have HR4 := Lib.hid (HR3.out.all (.below hbV)); have hbW := (hb2.trans (hb3.mono hb2.size)).trans (hbV.mono (hb2.trans (hb3.mono hb2.size)).size); have hb1V : Below W3.heap.size W3 (W3.alloc (.cells #[.string nm, .slice Au nu cu, .slice Af nf cf] 59)) := (Below.refl _ _).alloc (Nat.le_refl _) _; have y0' := block_cell (HR3.out.all (.below hb1V)).gb 0; clear y0 y1 hnd hb1V)
            | (gi_at_builtin; refine wpListIn_append_q _ rfl (.tmp 43) (.tmp 45) _ rfl w.heap.size 59 i0 (.agg #[.string .empty, .slice none 0 0, .slice none 0 0]) 3 64 Tryz.underlying22 ei ez ez1 ez2 rfl (by decide) (.slice An g.kinds.length cn) g.kinds.length xs rfl HR4.out.on (some ⟨W3.heap.size + 1, 0, none⟩) 1 1 [.string nm, .slice Au nu cu, .slice Af nf cf] rfl rfl (fun _ => ⟨_, rfl, fun j u hj => by rw [addr_add, Nat.zero_add, World.cell?_alloc_at _ _ _ _ (by simp)]; simpa using hj⟩) (fun u hu => by simp at hu; rcases hu with rfl | rfl | rfl <;> rfl) (by have := HCN.out; unfold maxLen; omega) (by have := HCN.out; omega) (by have := HR4.out.low; omega) ?_; intro v7 w7 hown7 hg7 hat7; obtain ⟨A7, c7, rfl, _, _⟩ := hown7.form; obtain ⟨a0, a1, a2, a3, a4, a5, a6, a7⟩ := HR4.out.after_kinds hg7; have HG7 := Lib.hid hg7; clear y0'; have y0 := block_cell a3 0; have y0f := block_free a3 0; have y4 := block_cell a4 0; have y4f := block_free a4 0; have x00 := block_cell a0 0; have x01 := block_cell a0 1; have f00 := block_free a0 0; have f01 := block_free a0 1; have x1 := block_cell a1 0; have f1 := block_free a1 0; have x2 := block_cell a2 0; have f2 := block_free a2 0; have A0 := Lib.hid a0; have A1 := Lib.hid a1; have A2 := Lib.hid a2; have A3 := Lib.hid a3; have A4 := Lib.hid a4; have A5 := Lib.hid a5; have A6 := Lib.hid a6; have A7' := Lib.hid a7; have HOW := Lib.hid hown7; clear a0 a1 a2 a3 a4 a5 a6 a7 hg7 hat7 hown7))
          obtain ⟨k1, k2, k3⟩ := hR.app_k hbW HG7.out
          gi_region
          all_goals
            gi_wp2
            exact wrong_endS HW0.out (k1.trans (KeepsFrom.setCell (q := w.heap.size + 1 + 1 + 1) _ (by have := HW0.out; omega) _ _)) ((hB.trans (k2.mono (Nat.le_refl _))).setCell (p := ⟨w.heap.size + 1 + 1 + 1, 0, none⟩) (by show w.heap.size ≤ w.heap.size + 1 + 1 + 1; omega) _) (setCell_other A0.out (by omega) _ _) (setCell_other A1.out (by omega) _ _) (setCell_other A2.out (by omega) _ _) (by obtain ⟨s, h⟩ := A5.out; exact ⟨s, setCell_other h (by omega) _ _⟩) (fun rest => by rw [lnL_snoc]; exact runS_wrong hR.run HN.out rest) rfl
        | true =>
          cases hnn : readKndL P with
          | none =>
            have HNN : Hid (readKndL P = none) := hnn
            have HN : Hid (lineS g y = none) := by unfold Hid; rw [HLN.out, hnn]; rfl
            clear HLN hnn
            gi_wp2_with (first
              | (refine ⟨trivial, ?_⟩; gi_at_call 34; refine (CallsIn.inRound lr ((callsIn_wide (n := _)).2 hx)).mono ?_; rintro e w9 ⟨rfl, hw⟩; have hw := hw.symm; subst hw; clear hx)
              | (refine ⟨trivial, ?_⟩; gi_at_call 35; refine (CallsIn.inRound lr ((callsIn_wide (n := _)).2 hxc)).mono ?_; rintro e W2 ⟨rfl, hOw, hb2⟩; have HR2 := Lib.hid (hR.all (.below hb2)); have HCC := Lib.hid (own_cells hOw HPL.out); have pc0 := (HCC.out 0 x0 HP0.out).1; clear hOw; have y0 := block_cell HR2.out.gb 0; have y1 := block_cell HR2.out.gb 1; clear hxc)
              | (refine ⟨trivial, ?_⟩; gi_at_call 36; refine (CallsIn.inRound lr ((callsIn_wide (n := _)).2 (HXN.out _ (HT1.out.below hb2) (HY1.out.below hb2) HCC.out))).mono ?_; clear pc0; rintro e W3 ⟨nm, Au, nu, cu, Af, nf, cf, rfl, hnd, hb3⟩; rw [show (readKndL P).isSome = false from by rw [HNN.out]; rfl]; have HND := Lib.hid hnd; have hbV : Below W3.heap.size W3 ((W3.alloc (.cells #[.string nm, .slice Au nu cu, .slice Af nf cf] 59)).alloc (.cells #[.string nm, .slice Au nu cu, .slice Af nf cf] 59)) := ((Below.refl _ _).alloc (Nat.le_refl _) _).alloc (by simp) _; have HR3 := Lib.hid (HR2.out.all (.below hb3)); have HR4 := Lib.hid (HR3.out.all (.below hbV)); have hbW := (hb2.trans (hb3.mono hb2.size)).trans (hbV.mono (hb2.trans (hb3.mono hb2.size)).size); have hb1V : Below W3.heap.size W3 (W3.alloc (.cells #[.string nm, .slice Au nu cu, .slice Af nf cf] 59)) := (Below.refl _ _).alloc (Nat.le_refl _) _; have y0' := block_cell (HR3.out.all (.below hb1V)).gb 0; clear y0 y1 hnd hb1V)
              | (gi_at_builtin; refine wpListIn_append_q _ rfl (.tmp 43) (.tmp 45) _ rfl w.heap.size 59 i0 (.agg #[.string .empty, .slice none 0 0, .slice none 0 0]) 3 64 Tryz.underlying22 ei ez ez1 ez2 rfl (by decide) (.slice An g.kinds.length cn) g.kinds.length xs rfl HR4.out.on (some ⟨W3.heap.size + 1, 0, none⟩) 1 1 [.string nm, .slice Au nu cu, .slice Af nf cf] rfl rfl (fun _ => ⟨_, rfl, fun j u hj => by rw [addr_add, Nat.zero_add, World.cell?_alloc_at _ _ _ _ (by simp)]; simpa using hj⟩) (fun u hu => by simp at hu; rcases hu with rfl | rfl | rfl <;> rfl) (by have := HCN.out; unfold maxLen; omega) (by have := HCN.out; omega) (by have := HR4.out.low; omega) ?_; intro v7 w7 hown7 hg7 hat7; obtain ⟨A7, c7, rfl, _, _⟩ := hown7.form; obtain ⟨a0, a1, a2, a3, a4, a5, a6, a7⟩ := HR4.out.after_kinds hg7; have HG7 := Lib.hid hg7; clear y0'; have y0 := block_cell a3 0; have y0f := block_free a3 0; have y4 := block_cell a4 0; have y4f := block_free a4 0; have x00 := block_cell a0 0; have x01 := block_cell a0 1; have f00 := block_free a0 0; have f01 := block_free a0 1; have x1 := block_cell a1 0; have f1 := block_free a1 0; have x2 := block_cell a2 0; have f2 := block_free a2 0; have A0 := Lib.hid a0; have A1 := Lib.hid a1; have A2 := Lib.hid a2; have A3 := Lib.hid a3; have A4 := Lib.hid a4; have A5 := Lib.hid a5; have A6 := Lib.hid a6; have A7' := Lib.hid a7; have HOW := Lib.hid hown7; clear a0 a1 a2 a3 a4 a5 a6 a7 hg7 hat7 hown7))
            obtain ⟨k1, k2, k3⟩ := hR.app_k hbW HG7.out
            gi_region
            all_goals
              gi_wp2
              exact wrong_endS HW0.out (k1.trans (KeepsFrom.setCell (q := w.heap.size + 1 + 1 + 1) _ (by have := HW0.out; omega) _ _)) ((hB.trans (k2.mono (Nat.le_refl _))).setCell (p := ⟨w.heap.size + 1 + 1 + 1, 0, none⟩) (by show w.heap.size ≤ w.heap.size + 1 + 1 + 1; omega) _) (setCell_other A0.out (by omega) _ _) (setCell_other A1.out (by omega) _ _) (setCell_other A2.out (by omega) _ _) (by obtain ⟨s, h⟩ := A5.out; exact ⟨s, setCell_other h (by omega) _ _⟩) (fun rest => by rw [lnL_snoc]; exact runS_wrong hR.run HN.out rest) rfl
          | some nd =>
            have HNN : Hid (readKndL P = some nd) := hnn
            have HN : Hid (lineS g y = some ⟨g.kinds ++ [nd], g.bonds⟩) := by unfold Hid; rw [HLN.out, hnn]; rfl
            clear HLN hnn
            gi_wp2_with (first
              | (refine ⟨trivial, ?_⟩; gi_at_call 34; refine (CallsIn.inRound lr ((callsIn_wide (n := _)).2 hx)).mono ?_; rintro e w9 ⟨rfl, hw⟩; have hw := hw.symm; subst hw; clear hx)
              | (refine ⟨trivial, ?_⟩; gi_at_call 35; refine (CallsIn.inRound lr ((callsIn_wide (n := _)).2 hxc)).mono ?_; rintro e W2 ⟨rfl, hOw, hb2⟩; have HR2 := Lib.hid (hR.all (.below hb2)); have HCC := Lib.hid (own_cells hOw HPL.out); have pc0 := (HCC.out 0 x0 HP0.out).1; clear hOw; have y0 := block_cell HR2.out.gb 0; have y1 := block_cell HR2.out.gb 1; clear hxc)
              | (refine ⟨trivial, ?_⟩; gi_at_call 36; refine (CallsIn.inRound lr ((callsIn_wide (n := _)).2 (HXN.out _ (HT1.out.below hb2) (HY1.out.below hb2) HCC.out))).mono ?_; clear pc0; rintro e W3 ⟨nm, Au, nu, cu, Af, nf, cf, rfl, hnd, hb3⟩; rw [show (readKndL P).isSome = true from by rw [HNN.out]; rfl]; have HND := Lib.hid hnd; have hbV : Below W3.heap.size W3 ((W3.alloc (.cells #[.string nm, .slice Au nu cu, .slice Af nf cf] 59)).alloc (.cells #[.string nm, .slice Au nu cu, .slice Af nf cf] 59)) := ((Below.refl _ _).alloc (Nat.le_refl _) _).alloc (by simp) _; have HR3 := Lib.hid (HR2.out.all (.below hb3)); have HR4 := Lib.hid (HR3.out.all (.below hbV)); have hbW := (hb2.trans (hb3.mono hb2.size)).trans (hbV.mono (hb2.trans (hb3.mono hb2.size)).size); have hb1V : Below W3.heap.size W3 (W3.alloc (.cells #[.string nm, .slice Au nu cu, .slice Af nf cf] 59)) := (Below.refl _ _).alloc (Nat.le_refl _) _; have y0' := block_cell (HR3.out.all (.below hb1V)).gb 0; clear y0 y1 hnd hb1V)
              | (gi_at_builtin; refine wpListIn_append_q _ rfl (.tmp 43) (.tmp 45) _ rfl w.heap.size 59 i0 (.agg #[.string .empty, .slice none 0 0, .slice none 0 0]) 3 64 Tryz.underlying22 ei ez ez1 ez2 rfl (by decide) (.slice An g.kinds.length cn) g.kinds.length xs rfl HR4.out.on (some ⟨W3.heap.size + 1, 0, none⟩) 1 1 [.string nm, .slice Au nu cu, .slice Af nf cf] rfl rfl (fun _ => ⟨_, rfl, fun j u hj => by rw [addr_add, Nat.zero_add, World.cell?_alloc_at _ _ _ _ (by simp)]; simpa using hj⟩) (fun u hu => by simp at hu; rcases hu with rfl | rfl | rfl <;> rfl) (by have := HCN.out; unfold maxLen; omega) (by have := HCN.out; omega) (by have := HR4.out.low; omega) ?_; intro v7 w7 hown7 hg7 hat7; obtain ⟨A7, c7, rfl, _, _⟩ := hown7.form; obtain ⟨a0, a1, a2, a3, a4, a5, a6, a7⟩ := HR4.out.after_kinds hg7; have HG7 := Lib.hid hg7; clear y0'; have y0 := block_cell a3 0; have y0f := block_free a3 0; have y4 := block_cell a4 0; have y4f := block_free a4 0; have x00 := block_cell a0 0; have x01 := block_cell a0 1; have f00 := block_free a0 0; have f01 := block_free a0 1; have x1 := block_cell a1 0; have f1 := block_free a1 0; have x2 := block_cell a2 0; have f2 := block_free a2 0; have A0 := Lib.hid a0; have A1 := Lib.hid a1; have A2 := Lib.hid a2; have A3 := Lib.hid a3; have A4 := Lib.hid a4; have A5 := Lib.hid a5; have A6 := Lib.hid a6; have A7' := Lib.hid a7; have HOW := Lib.hid hown7; clear a0 a1 a2 a3 a4 a5 a6 a7 hg7 hat7 hown7))
            gi_wp2
            obtain ⟨k1, k2, k3⟩ := hR.app_k hbW HG7.out
            obtain ⟨rfl, rfl, rfl, h1, h2, h3, h4, h5⟩ := HND.out nd HNN.out
            have hbz : w.heap.size + 6 ≤ W2.heap.size := by
              obtain ⟨sq, hsq⟩ := hR.qb
              have := (Array.getElem?_eq_some_iff.1 hsq).1
              have := hb2.size
              omega
            have hst := RdS.store (P := lnL (pre ++ [⟨y, hy⟩])) (g' := ⟨g.kinds ++ [nd], g.bonds⟩) (i := 0) (u := .slice A7 (g.kinds.length + 1) c7) (A9 := A7) (c9 := c7) (A8 := At) (c8 := ct) (Nat.lt_of_lt_of_le hR.low (by have := k2.size; have := k1.size; omega)) A0.out A1.out A2.out A3.out A4.out A5.out (by simp) (by simpa using HOW.out) (OwnKnds.snoc h1 h2 (((h3.mono hbz).below hbV).same (.grown HR4.out.on (by decide) HG7.out)) h4 (((h5.mono hbz).below hbV).same (.grown HR4.out.on (by decide) HG7.out)) A6.out) A7'.out hR.tt (fun rest => by rw [lnL_snoc]; exact runS_more hR.run HN.out rest)
            have hP : ((lnL (pre ++ [⟨y, hy⟩])).length : Int) = ((lnL pre).length : Int) + 1 := by rw [lnL_snoc, List.length_append]; rfl
            rw [hP] at hst
            obtain ⟨m1, m2, m3⟩ := more_end (i := 0) HW0.out k1 (hB.trans (k2.mono (Nat.le_refl _))) k2 k3 rfl
            exact ⟨m1, m2, ⟨_, _, _, _, _, _, hst, (by have := HCN.out; simp; omega)⟩, m3⟩
      · have ht0' : ((g.bonds.length : Int) == 0) = false := by simp; intro h; apply ht0; rw [h]; rfl
        have hkt : ¬ x0 = bondW := by rw [hkn]; decide
        have HN : Hid (lineS g y = none) := by unfold Hid; rw [HLT.out, if_neg (c := x0 = kindW ∧ g.bonds.length = 0) (fun h => ht0 h.2), if_neg hkt]; split <;> rfl
        have b2 : ¬ (bs x0).toList = [98, 111, 110, 100] := by rw [q2]; exact hkt
        have b2' : ((bs x0).toList == [98, 111, 110, 100]) = false := by simpa using b2
        clear HLT HXN HXT hkn hkt q1 q2 ht0
        gi_wp2_with (first
          | (refine ⟨trivial, ?_⟩; gi_at_call 34; refine (CallsIn.inRound lr ((callsIn_wide (n := _)).2 hx)).mono ?_; rintro e w9 ⟨rfl, hw⟩; have hw := hw.symm; subst hw; clear hx)
          | (refine ⟨trivial, ?_⟩; gi_at_call 35; refine (CallsIn.inRound lr ((callsIn_wide (n := _)).2 hxc)).mono ?_; rintro e W2 ⟨rfl, hOw, hb2⟩; have HR2 := Lib.hid (hR.all (.below hb2)); have HCC := Lib.hid (own_cells hOw HPL.out); have pc0 := (HCC.out 0 x0 HP0.out).1; clear hOw; have y0 := block_cell HR2.out.gb 0; have y1 := block_cell HR2.out.gb 1; have y4 := block_cell HR2.out.nb 0; have x00 := block_cell HR2.out.r0 0; have x01 := block_cell HR2.out.r0 1; have f00 := block_free HR2.out.r0 0; have f01 := block_free HR2.out.r0 1; have x1 := block_cell HR2.out.r1 0; have f1 := block_free HR2.out.r1 0; have x2 := block_cell HR2.out.r2 0; have f2 := block_free HR2.out.r2 0; clear hxc))
        gi_region
        all_goals
          gi_wp2
          exact wrong_endS HW0.out (KeepsFrom.below hb2) (hB.trans (hb2.mono hB.size)) HR2.out.r0 HR2.out.r1 HR2.out.r2 HR2.out.qb (fun rest => by rw [lnL_snoc]; exact runS_wrong hR.run HN.out rest) rfl
    · by_cases hkt : x0 = bondW
      · have b1 : ¬ (bs x0).toList = [107, 105, 110, 100] := by rw [q1]; exact hkn
        have b2 : (bs x0).toList = [98, 111, 110, 100] := by rw [q2]; exact hkt
        have b1' : ((bs x0).toList == [107, 105, 110, 100]) = false := by simpa using b1
        have b2' : ((bs x0).toList == [98, 111, 110, 100]) = true := by simpa using b2
        have HLN : Hid (lineS g y = if sf = true then (readBndL P).map (fun n => (⟨g.kinds, g.bonds ++ [n]⟩ : Scm)) else none) := by unfold Hid; rw [HLT.out, if_neg (c := x0 = kindW ∧ g.bonds.length = 0) (fun h => hkn h.1), if_pos hkt]
        clear HLT HXN q1 q2 hkn hkt
        cases sf with
        | false =>
          have HN : Hid (lineS g y = none) := HLN.out
          clear HLN
          gi_wp2_with (first
            | (refine ⟨trivial, ?_⟩; gi_at_call 34; refine (CallsIn.inRound lr ((callsIn_wide (n := _)).2 hx)).mono ?_; rintro e w9 ⟨rfl, hw⟩; have hw := hw.symm; subst hw; clear hx)
            | (refine ⟨trivial, ?_⟩; gi_at_call 35; refine (CallsIn.inRound lr ((callsIn_wide (n := _)).2 hxc)).mono ?_; rintro e W2 ⟨rfl, hOw, hb2⟩; have HR2 := Lib.hid (hR.all (.below hb2)); have HCC := Lib.hid (own_cells hOw HPL.out); have pc0 := (HCC.out 0 x0 HP0.out).1; clear hOw; have y0 := block_cell HR2.out.gb 0; have y1 := block_cell HR2.out.gb 1; clear hxc)
            | (refine ⟨trivial, ?_⟩; gi_at_call 37; refine (CallsIn.inRound lr ((callsIn_wide (n := _)).2 (HXT.out _ (HT1.out.below hb2) HCC.out))).mono ?_; clear pc0; rintro e W3 ⟨ba, bb, bc, x5, y5, rfl, hnd, hb3⟩; have HND := Lib.hid hnd; have hbV : Below W3.heap.size W3 ((W3.alloc (.cells #[.string ba, .string bb, .string bc, .int .i64 x5, .int .i64 y5] 40)).alloc (.cells #[.string ba, .string bb, .string bc, .int .i64 x5, .int .i64 y5] 40)) := ((Below.refl _ _).alloc (Nat.le_refl _) _).alloc (by simp) _; have HR3 := Lib.hid (HR2.out.all (.below hb3)); have HR4 := Lib.hid (HR3.out.all (.below hbV)); have hbW := (hb2.trans (hb3.mono hb2.size)).trans (hbV.mono (hb2.trans (hb3.mono hb2.size)).size); have hb1V : Below W3.heap.size W3 (W3.alloc (.cells #[.string ba, .string bb, .string bc, .int .i64 x5, .int .i64 y5] 40)) := (Below.refl _ _).alloc (Nat.le_refl _) _; have y0' := block_cell (HR3.out.all (.below hb1V)).gb 1; clear y0 y1 hnd hb1V)
            | (gi_at_builtin; refine wpListIn_append_q _ rfl (.tmp 63) (.tmp 65) _ rfl w.heap.size 40 j0 (.agg #[.string .empty, .string .empty, .string .empty, .int .i64 0, .int .i64 0]) 5 64 Tryz.underlying23 fi fz fz1 fz2 rfl (by decide) (.slice At g.bonds.length ct) g.bonds.length (g.bonds.flatMap Bnd.enc) rfl HR4.out.ot (some ⟨W3.heap.size + 1, 0, none⟩) 1 1 [.string ba, .string bb, .string bc, .int .i64 x5, .int .i64 y5] rfl rfl (fun _ => ⟨_, rfl, fun j u hj => by rw [addr_add, Nat.zero_add, World.cell?_alloc_at _ _ _ _ (by simp)]; simpa using hj⟩) (fun u hu => by simp at hu; rcases hu with rfl | rfl | rfl | rfl | rfl <;> rfl) (by have := HCN.out; unfold maxLen; omega) (by have := HCN.out; omega) (by have := HR4.out.low; omega) ?_; intro v7 w7 hown7 hg7 hat7; obtain ⟨A7, c7, rfl, _, _⟩ := hown7.form; obtain ⟨a0, a1, a2, a3, a4, a5, a6, a7⟩ := HR4.out.after_bonds hg7; have HG7 := Lib.hid hg7; clear y0'; have y0 := block_cell a3 1; have y0f := block_free a3 1; have y4 := block_cell a4 0; have y4f := block_free a4 0; have x00 := block_cell a0 0; have x01 := block_cell a0 1; have f00 := block_free a0 0; have f01 := block_free a0 1; have x1 := block_cell a1 0; have f1 := block_free a1 0; have x2 := block_cell a2 0; have f2 := block_free a2 0; have A0 := Lib.hid a0; have A1 := Lib.hid a1; have A2 := Lib.hid a2; have A3 := Lib.hid a3; have A4 := Lib.hid a4; have A5 := Lib.hid a5; have A6 := Lib.hid a6; have A7' := Lib.hid a7; have HOW := Lib.hid hown7; clear a0 a1 a2 a3 a4 a5 a6 a7 hg7 hat7 hown7))
          obtain ⟨k1, k2, k3⟩ := hR.app_b hbW HG7.out
          gi_region
          all_goals
            gi_wp2
            exact wrong_endS HW0.out (k1.trans (KeepsFrom.setCell (q := w.heap.size + 1 + 1 + 1) _ (by have := HW0.out; omega) _ _)) ((hB.trans (k2.mono (Nat.le_refl _))).setCell (p := ⟨w.heap.size + 1 + 1 + 1, 1, none⟩) (by show w.heap.size ≤ w.heap.size + 1 + 1 + 1; omega) _) (setCell_other A0.out (by omega) _ _) (setCell_other A1.out (by omega) _ _) (setCell_other A2.out (by omega) _ _) (by obtain ⟨s, h⟩ := A5.out; exact ⟨s, setCell_other h (by omega) _ _⟩) (fun rest => by rw [lnL_snoc]; exact runS_wrong hR.run HN.out rest) rfl
        | true =>
          cases hnn : readBndL P with
          | none =>
            have HNN : Hid (readBndL P = none) := hnn
            have HN : Hid (lineS g y = none) := by unfold Hid; rw [HLN.out, hnn]; rfl
            clear HLN hnn
            gi_wp2_with (first
              | (refine ⟨trivial, ?_⟩; gi_at_call 34; refine (CallsIn.inRound lr ((callsIn_wide (n := _)).2 hx)).mono ?_; rintro e w9 ⟨rfl, hw⟩; have hw := hw.symm; subst hw; clear hx)
              | (refine ⟨trivial, ?_⟩; gi_at_call 35; refine (CallsIn.inRound lr ((callsIn_wide (n := _)).2 hxc)).mono ?_; rintro e W2 ⟨rfl, hOw, hb2⟩; have HR2 := Lib.hid (hR.all (.below hb2)); have HCC := Lib.hid (own_cells hOw HPL.out); have pc0 := (HCC.out 0 x0 HP0.out).1; clear hOw; have y0 := block_cell HR2.out.gb 0; have y1 := block_cell HR2.out.gb 1; clear hxc)
              | (refine ⟨trivial, ?_⟩; gi_at_call 37; refine (CallsIn.inRound lr ((callsIn_wide (n := _)).2 (HXT.out _ (HT1.out.below hb2) HCC.out))).mono ?_; clear pc0; rintro e W3 ⟨ba, bb, bc, x5, y5, rfl, hnd, hb3⟩; rw [show (readBndL P).isSome = false from by rw [HNN.out]; rfl]; have HND := Lib.hid hnd; have hbV : Below W3.heap.size W3 ((W3.alloc (.cells #[.string ba, .string bb, .string bc, .int .i64 x5, .int .i64 y5] 40)).alloc (.cells #[.string ba, .string bb, .string bc, .int .i64 x5, .int .i64 y5] 40)) := ((Below.refl _ _).alloc (Nat.le_refl _) _).alloc (by simp) _; have HR3 := Lib.hid (HR2.out.all (.below hb3)); have HR4 := Lib.hid (HR3.out.all (.below hbV)); have hbW := (hb2.trans (hb3.mono hb2.size)).trans (hbV.mono (hb2.trans (hb3.mono hb2.size)).size); have hb1V : Below W3.heap.size W3 (W3.alloc (.cells #[.string ba, .string bb, .string bc, .int .i64 x5, .int .i64 y5] 40)) := (Below.refl _ _).alloc (Nat.le_refl _) _; have y0' := block_cell (HR3.out.all (.below hb1V)).gb 1; clear y0 y1 hnd hb1V)
              | (gi_at_builtin; refine wpListIn_append_q _ rfl (.tmp 63) (.tmp 65) _ rfl w.heap.size 40 j0 (.agg #[.string .empty, .string .empty, .string .empty, .int .i64 0, .int .i64 0]) 5 64 Tryz.underlying23 fi fz fz1 fz2 rfl (by decide) (.slice At g.bonds.length ct) g.bonds.length (g.bonds.flatMap Bnd.enc) rfl HR4.out.ot (some ⟨W3.heap.size + 1, 0, none⟩) 1 1 [.string ba, .string bb, .string bc, .int .i64 x5, .int .i64 y5] rfl rfl (fun _ => ⟨_, rfl, fun j u hj => by rw [addr_add, Nat.zero_add, World.cell?_alloc_at _ _ _ _ (by simp)]; simpa using hj⟩) (fun u hu => by simp at hu; rcases hu with rfl | rfl | rfl | rfl | rfl <;> rfl) (by have := HCN.out; unfold maxLen; omega) (by have := HCN.out; omega) (by have := HR4.out.low; omega) ?_; intro v7 w7 hown7 hg7 hat7; obtain ⟨A7, c7, rfl, _, _⟩ := hown7.form; obtain ⟨a0, a1, a2, a3, a4, a5, a6, a7⟩ := HR4.out.after_bonds hg7; have HG7 := Lib.hid hg7; clear y0'; have y0 := block_cell a3 1; have y0f := block_free a3 1; have y4 := block_cell a4 0; have y4f := block_free a4 0; have x00 := block_cell a0 0; have x01 := block_cell a0 1; have f00 := block_free a0 0; have f01 := block_free a0 1; have x1 := block_cell a1 0; have f1 := block_free a1 0; have x2 := block_cell a2 0; have f2 := block_free a2 0; have A0 := Lib.hid a0; have A1 := Lib.hid a1; have A2 := Lib.hid a2; have A3 := Lib.hid a3; have A4 := Lib.hid a4; have A5 := Lib.hid a5; have A6 := Lib.hid a6; have A7' := Lib.hid a7; have HOW := Lib.hid hown7; clear a0 a1 a2 a3 a4 a5 a6 a7 hg7 hat7 hown7))
            obtain ⟨k1, k2, k3⟩ := hR.app_b hbW HG7.out
            gi_region
            all_goals
              gi_wp2
              exact wrong_endS HW0.out (k1.trans (KeepsFrom.setCell (q := w.heap.size + 1 + 1 + 1) _ (by have := HW0.out; omega) _ _)) ((hB.trans (k2.mono (Nat.le_refl _))).setCell (p := ⟨w.heap.size + 1 + 1 + 1, 1, none⟩) (by show w.heap.size ≤ w.heap.size + 1 + 1 + 1; omega) _) (setCell_other A0.out (by omega) _ _) (setCell_other A1.out (by omega) _ _) (setCell_other A2.out (by omega) _ _) (by obtain ⟨s, h⟩ := A5.out; exact ⟨s, setCell_other h (by omega) _ _⟩) (fun rest => by rw [lnL_snoc]; exact runS_wrong hR.run HN.out rest) rfl
          | some nd =>
            have HNN : Hid (readBndL P = some nd) := hnn
            have HN : Hid (lineS g y = some ⟨g.kinds, g.bonds ++ [nd]⟩) := by unfold Hid; rw [HLN.out, hnn]; rfl
            clear HLN hnn
            gi_wp2_with (first
              | (refine ⟨trivial, ?_⟩; gi_at_call 34; refine (CallsIn.inRound lr ((callsIn_wide (n := _)).2 hx)).mono ?_; rintro e w9 ⟨rfl, hw⟩; have hw := hw.symm; subst hw; clear hx)
              | (refine ⟨trivial, ?_⟩; gi_at_call 35; refine (CallsIn.inRound lr ((callsIn_wide (n := _)).2 hxc)).mono ?_; rintro e W2 ⟨rfl, hOw, hb2⟩; have HR2 := Lib.hid (hR.all (.below hb2)); have HCC := Lib.hid (own_cells hOw HPL.out); have pc0 := (HCC.out 0 x0 HP0.out).1; clear hOw; have y0 := block_cell HR2.out.gb 0; have y1 := block_cell HR2.out.gb 1; clear hxc)
              | (refine ⟨trivial, ?_⟩; gi_at_call 37; refine (CallsIn.inRound lr ((callsIn_wide (n := _)).2 (HXT.out _ (HT1.out.below hb2) HCC.out))).mono ?_; clear pc0; rintro e W3 ⟨ba, bb, bc, x5, y5, rfl, hnd, hb3⟩; rw [show (readBndL P).isSome = true from by rw [HNN.out]; rfl]; have HND := Lib.hid hnd; have hbV : Below W3.heap.size W3 ((W3.alloc (.cells #[.string ba, .string bb, .string bc, .int .i64 x5, .int .i64 y5] 40)).alloc (.cells #[.string ba, .string bb, .string bc, .int .i64 x5, .int .i64 y5] 40)) := ((Below.refl _ _).alloc (Nat.le_refl _) _).alloc (by simp) _; have HR3 := Lib.hid (HR2.out.all (.below hb3)); have HR4 := Lib.hid (HR3.out.all (.below hbV)); have hbW := (hb2.trans (hb3.mono hb2.size)).trans (hbV.mono (hb2.trans (hb3.mono hb2.size)).size); have hb1V : Below W3.heap.size W3 (W3.alloc (.cells #[.string ba, .string bb, .string bc, .int .i64 x5, .int .i64 y5] 40)) := (Below.refl _ _).alloc (Nat.le_refl _) _; have y0' := block_cell (HR3.out.all (.below hb1V)).gb 1; clear y0 y1 hnd hb1V)
              | (gi_at_builtin; refine wpListIn_append_q _ rfl (.tmp 63) (.tmp 65) _ rfl w.heap.size 40 j0 (.agg #[.string .empty, .string .empty, .string .empty, .int .i64 0, .int .i64 0]) 5 64 Tryz.underlying23 fi fz fz1 fz2 rfl (by decide) (.slice At g.bonds.length ct) g.bonds.length (g.bonds.flatMap Bnd.enc) rfl HR4.out.ot (some ⟨W3.heap.size + 1, 0, none⟩) 1 1 [.string ba, .string bb, .string bc, .int .i64 x5, .int .i64 y5] rfl rfl (fun _ => ⟨_, rfl, fun j u hj => by rw [addr_add, Nat.zero_add, World.cell?_alloc_at _ _ _ _ (by simp)]; simpa using hj⟩) (fun u hu => by simp at hu; rcases hu with rfl | rfl | rfl | rfl | rfl <;> rfl) (by have := HCN.out; unfold maxLen; omega) (by have := HCN.out; omega) (by have := HR4.out.low; omega) ?_; intro v7 w7 hown7 hg7 hat7; obtain ⟨A7, c7, rfl, _, _⟩ := hown7.form; obtain ⟨a0, a1, a2, a3, a4, a5, a6, a7⟩ := HR4.out.after_bonds hg7; have HG7 := Lib.hid hg7; clear y0'; have y0 := block_cell a3 1; have y0f := block_free a3 1; have y4 := block_cell a4 0; have y4f := block_free a4 0; have x00 := block_cell a0 0; have x01 := block_cell a0 1; have f00 := block_free a0 0; have f01 := block_free a0 1; have x1 := block_cell a1 0; have f1 := block_free a1 0; have x2 := block_cell a2 0; have f2 := block_free a2 0; have A0 := Lib.hid a0; have A1 := Lib.hid a1; have A2 := Lib.hid a2; have A3 := Lib.hid a3; have A4 := Lib.hid a4; have A5 := Lib.hid a5; have A6 := Lib.hid a6; have A7' := Lib.hid a7; have HOW := Lib.hid hown7; clear a0 a1 a2 a3 a4 a5 a6 a7 hg7 hat7 hown7))
            gi_wp2
            obtain ⟨k1, k2, k3⟩ := hR.app_b hbW HG7.out
            obtain ⟨rfl, rfl, rfl, rfl, rfl, hok⟩ := HND.out nd HNN.out
            have hst := RdS.store (P := lnL (pre ++ [⟨y, hy⟩])) (g' := ⟨g.kinds, g.bonds ++ [nd]⟩) (i := 1) (u := .slice A7 (g.bonds.length + 1) c7) (A9 := An) (c9 := cn) (A8 := A7) (c8 := c7) (Nat.lt_of_lt_of_le hR.low (by have := k2.size; have := k1.size; omega)) A0.out A1.out A2.out A3.out A4.out A5.out (by simp) A7'.out A6.out (by simpa [Bnd.enc] using HOW.out) (fun t ht => by rcases List.mem_append.1 ht with h | h; exact hR.tt t h; rw [List.mem_singleton.1 h]; exact hok) (fun rest => by rw [lnL_snoc]; exact runS_more hR.run HN.out rest)
            have hP : ((lnL (pre ++ [⟨y, hy⟩])).length : Int) = ((lnL pre).length : Int) + 1 := by rw [lnL_snoc, List.length_append]; rfl
            rw [hP] at hst
            obtain ⟨m1, m2, m3⟩ := more_end (i := 1) HW0.out k1 (hB.trans (k2.mono (Nat.le_refl _))) k2 k3 rfl
            exact ⟨m1, m2, ⟨_, _, _, _, _, _, hst, (by have := HCN.out; simp; omega)⟩, m3⟩
      · have HN : Hid (lineS g y = none) := by unfold Hid; rw [HLT.out, if_neg (c := x0 = kindW ∧ g.bonds.length = 0) (fun h => hkn h.1), if_neg hkt]; split <;> rfl
        have b1 : ¬ (bs x0).toList = [107, 105, 110, 100] := by rw [q1]; exact hkn
        have b2 : ¬ (bs x0).toList = [98, 111, 110, 100] := by rw [q2]; exact hkt
        have b1' : ((bs x0).toList == [107, 105, 110, 100]) = false := by simpa using b1
        have b2' : ((bs x0).toList == [98, 111, 110, 100]) = false := by simpa using b2
        clear HLT HXN HXT hkn hkt q1 q2
        gi_wp2_with (first
          | (refine ⟨trivial, ?_⟩; gi_at_call 34; refine (CallsIn.inRound lr ((callsIn_wide (n := _)).2 hx)).mono ?_; rintro e w9 ⟨rfl, hw⟩; have hw := hw.symm; subst hw; clear hx)
          | (refine ⟨trivial, ?_⟩; gi_at_call 35; refine (CallsIn.inRound lr ((callsIn_wide (n := _)).2 hxc)).mono ?_; rintro e W2 ⟨rfl, hOw, hb2⟩; have HR2 := Lib.hid (hR.all (.below hb2)); have HCC := Lib.hid (own_cells hOw HPL.out); have pc0 := (HCC.out 0 x0 HP0.out).1; clear hOw; have y0 := block_cell HR2.out.gb 0; have y1 := block_cell HR2.out.gb 1; have y4 := block_cell HR2.out.nb 0; have x00 := block_cell HR2.out.r0 0; have x01 := block_cell HR2.out.r0 1; have f00 := block_free HR2.out.r0 0; have f01 := block_free HR2.out.r0 1; have x1 := block_cell HR2.out.r1 0; have f1 := block_free HR2.out.r1 0; have x2 := block_cell HR2.out.r2 0; have f2 := block_free HR2.out.r2 0; clear hxc))
        gi_region
        all_goals
          gi_wp2
          exact wrong_endS HW0.out (KeepsFrom.below hb2) (hB.trans (hb2.mono hB.size)) HR2.out.r0 HR2.out.r1 HR2.out.r2 HR2.out.qb (fun rest => by rw [lnL_snoc]; exact runS_wrong hR.run HN.out rest) rfl
  case done =>
    rintro D ys W hD hys ⟨⟨g, An, At, cn, ct, xs, hR, hcnt⟩, hB⟩ hK
    obtain ⟨t1, t2, t3⟩ := read_okS hR.run hys
    have hDb : w.heap.size + 6 ≤ D := by rw [← HS0.out]; exact hD
    have hG : ScmR W (.slice An g.kinds.length cn) (.slice At g.bonds.length ct) g := ⟨Own.row (L := kndL) hR.on hR.nn.row, Own.bnds hR.ot hR.tt⟩
    have hx := sright_any g _ _ W hG
    have y0 := block_cell hR.gb 0
    have y1 := block_cell hR.gb 1
    by_cases hz : (scmE g).2 = 0
    · have T1 : Hid (readSE l = 0) := t1.trans hz
      have T2 : Hid (readSN l = 0) := t2
      have T3 : Hid (readSV l = g) := by unfold Hid; rw [t3, if_pos hz]
      rw [errV_zero hz] at hx
      clear t1 t2 t3 hz hcnt hG hys hll
      gi_wp2_with (refine ⟨trivial, ?_⟩; gi_at_call 24; refine ((callsIn_wide (n := _)).2 hx).mono ?_; clear hx; rintro e W2 ⟨rfl, hb2⟩; have HR2 := Lib.hid (hR.all (.below hb2)); have y0 := block_cell HR2.out.gb 0; have y1 := block_cell HR2.out.gb 1; have x00 := block_cell HR2.out.r0 0; have x01 := block_cell HR2.out.r0 1; have f00 := block_free HR2.out.r0 0; have f01 := block_free HR2.out.r0 1; have x1 := block_cell HR2.out.r1 0; have f1 := block_free HR2.out.r1 0; have x2 := block_cell HR2.out.r2 0; have f2 := block_free HR2.out.r2 0)
      obtain ⟨z0, z1, z2, z3, z4, z5⟩ := three_setS (w := w) (n := .int .i64 0) (e := .nilIface) (v0 := .slice An g.kinds.length cn) (v1 := .slice At g.bonds.length ct) HR2.out.r0 HR2.out.r1 HR2.out.r2 (hB.trans (hb2.mono hB.size))
      have hK2 := z4 D _ (by omega) ((hb2.block D (Array.getElem?_eq_some_iff.1 hK).1).trans hK)
      have Z5 := Lib.hid z5
      clear y0 y1 x00 x01 f00 f01 x1 f1 x2 f2 z5 z4
      generalize (((W2.setCell ⟨w.heap.size, 0, none⟩ (.slice An g.kinds.length cn)).setCell ⟨w.heap.size, 1, none⟩ (.slice At g.bonds.length ct)).setCell ⟨w.heap.size + 1, 0, none⟩ (.int .i64 0)).setCell ⟨w.heap.size + 1 + 1, 0, none⟩ .nilIface = Z at *
      refine ⟨by simp, .inl ⟨_, _, rfl, run_takeDeferred hK2, ?_⟩⟩
      obtain ⟨c0, c1, c2, c3⟩ := res_cellsS (D := D) (o := .deferred none) z0 z1 z2 hDb
      refine ⟨.tuple #[.agg #[.slice An g.kinds.length cn, .slice At g.bonds.length ct], .int .i64 0, .nilIface], (by simp [results, Tryz.results10, go_sem, c0, c1, c2, c3]), _, _, by rw [T1.out, T2.out]; rfl, ?_, below_putObj z3 (by omega)⟩
      rw [T3.out]
      exact ScmR.setS HR2.out (fun T' h1 h2 h3 => (Z5.out T' h1 h2 h3).trans ((AllSame.putObj hK2 rfl).same T'))
    · have T1 : Hid (readSE l = (scmE g).2) := t1
      have T2 : Hid (readSN l = 0) := t2
      have T3 : Hid (readSV l = ⟨[], []⟩) := by unfold Hid; rw [t3, if_neg hz]
      have HZ := Lib.hid (errV_some hz)
      rw [errV_some hz] at hx
      clear t1 t2 t3 hz hcnt hG hys hll
      gi_wp2_with (refine ⟨trivial, ?_⟩; gi_at_call 24; refine ((callsIn_wide (n := _)).2 hx).mono ?_; clear hx; rintro e W2 ⟨rfl, hb2⟩; have HR2 := Lib.hid (hR.all (.below hb2)); have y0 := block_cell HR2.out.gb 0; have y1 := block_cell HR2.out.gb 1; have x00 := block_cell HR2.out.r0 0; have x01 := block_cell HR2.out.r0 1; have f00 := block_free HR2.out.r0 0; have f01 := block_free HR2.out.r0 1; have x1 := block_cell HR2.out.r1 0; have f1 := block_free HR2.out.r1 0; have x2 := block_cell HR2.out.r2 0; have f2 := block_free HR2.out.r2 0)
      obtain ⟨z0, z1, z2, z3, z4, z5⟩ := three_setS (w := w) (n := .int .i64 0) (e := .iface 54 (.int .i64 ((scmE g).2))) (v0 := .slice none 0 0) (v1 := .slice none 0 0) HR2.out.r0 HR2.out.r1 HR2.out.r2 (hB.trans (hb2.mono hB.size))
      have hK2 := z4 D _ (by omega) ((hb2.block D (Array.getElem?_eq_some_iff.1 hK).1).trans hK)
      clear y0 y1 x00 x01 f00 f01 x1 f1 x2 f2 z5 z4
      generalize (((W2.setCell ⟨w.heap.size, 0, none⟩ (.slice none 0 0)).setCell ⟨w.heap.size, 1, none⟩ (.slice none 0 0)).setCell ⟨w.heap.size + 1, 0, none⟩ (.int .i64 0)).setCell ⟨w.heap.size + 1 + 1, 0, none⟩ (.iface 54 (.int .i64 ((scmE g).2))) = Z at *
      refine ⟨by simp, .inl ⟨_, _, rfl, run_takeDeferred hK2, ?_⟩⟩
      obtain ⟨c0, c1, c2, c3⟩ := res_cellsS (D := D) (o := .deferred none) z0 z1 z2 hDb
      refine ⟨.tuple #[.agg #[.slice none 0 0, .slice none 0 0], .int .i64 0, .iface 54 (.int .i64 ((scmE g).2))], (by simp [results, Tryz.results10, go_sem, c0, c1, c2, c3]), _, _, by rw [T1.out, T2.out, HZ.out]; rfl, ?_, below_putObj z3 (by omega)⟩
      rw [T3.out]
      exact scmR_none _
  case stop =>
    rintro D c pre W hD hpre ⟨rfl, hR, hB⟩ hK
    obtain ⟨k, r1, hk⟩ := hR.k
    obtain ⟨t1, t2, t3⟩ := read_badS hk hpre
    have hDb : w.heap.size + 6 ≤ D := by rw [← HS0.out]; exact hD
    obtain ⟨c0, c1, c2, c3⟩ := res_cellsS (D := D) (o := .deferred none) hR.r0 r1 hR.r2 hDb
    gi_wp2
    refine ⟨by simp, .inl ⟨_, _, rfl, run_takeDeferred hK, ?_⟩⟩
    refine ⟨.tuple #[.agg #[.slice none 0 0, .slice none 0 0], .int .i64 k, .iface 54 (.int .i64 2)], (by simp [results, Tryz.results10, go_sem, c0, c1, c2, c3]), _, _, by rw [t1, t2]; rfl, ?_, below_putObj hB (by omega)⟩
    rw [t3]
    exact scmR_none _
end Go.Proofs.YtfeccicogcnhcaaGreatDoor
