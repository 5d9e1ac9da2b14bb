/- Parts: DifB, RfL. -/
import Derived.Test.YthefofclbepkoaaDoorMg19
import Derived.Deep.DeepCutAuto
import Derived.Test.YthefofclbepkoaaDoorMg16
/- Contracts: diff.wider, diff.Loses. No condition. -/
namespace Go.Proofs.YthefofclbepkoaaDoor
open Go Go.RowKit


set_option maxHeartbeats 2000000 in
theorem wider1_any (x y : Bnd) (w : World) (hx : x.ok) (hy : y.ok) :
    Calls Tryd.prog 43 #[.agg #[.string x.name, .string x.src, .string x.dst, .int .i64 x.mn, .int .i64 x.mx], .agg #[.string y.name, .string y.src, .string y.dst, .int .i64 y.mn, .int .i64 y.mx]] w fun e w' => e = .returned (.bool (bondW1 x y)) ∧ Below w.heap.size w w' := by
  have hb0 : Below w.heap.size w ((w.alloc (.cells #[.string x.name, .string x.src, .string x.dst, .int .i64 x.mn, .int .i64 x.mx] 77)).alloc (.cells #[.string y.name, .string y.src, .string y.dst, .int .i64 y.mn, .int .i64 y.mx] 77)) := ((Below.refl _ _).alloc (Nat.le_refl _) _).alloc (by simp) _
  have HE : Hid (bondW1 x y = ((x.src.toList == y.src.toList) && (x.dst.toList == y.dst.toList) && decide (y.mn ≤ x.mn) && ((y.mx == -1) || ((x.mx != -1) && decide (x.mx ≤ y.mx))))) := by
    unfold Hid bondW1
    rw [bytes_beq, bytes_beq]
    have e1 : (y.mx == -1) = decide (y.mx = -1) := by rw [Bool.eq_iff_iff]; simp
    have e2 : (x.mx != -1) = !decide (x.mx = -1) := by rw [Bool.eq_iff_iff]; simp
    rw [e1, e2]
  clear hx hy
  cases e1 : (x.src.toList == y.src.toList) with
  | false =>
    rw [HE.out, e1]
    clear HE
    go_enter Tryd.func43, Tryd.ntmps43
    go_wp2_with fail
    go_ret
    exact ⟨rfl, hb0⟩
  | true =>
    cases e2 : (x.dst.toList == y.dst.toList) with
    | false =>
      rw [HE.out, e1, e2]
      clear HE
      go_enter Tryd.func43, Tryd.ntmps43
      go_wp2_with fail
      go_ret
      exact ⟨rfl, hb0⟩
    | true =>
      cases e3 : decide (y.mn ≤ x.mn) with
      | false =>
        rw [HE.out, e1, e2, e3]
        clear HE
        go_enter Tryd.func43, Tryd.ntmps43
        go_wp2_with fail
        go_ret
        exact ⟨rfl, hb0⟩
      | true =>
        cases e4 : (y.mx == -1) with
        | true =>
          rw [HE.out, e1, e2, e3, e4]
          clear HE
          go_enter Tryd.func43, Tryd.ntmps43
          go_wp2_with fail
          go_ret
          exact ⟨rfl, hb0⟩
        | false =>
          cases e5 : (x.mx != -1) with
          | false =>
            rw [HE.out, e1, e2, e3, e4, e5]
            clear HE
            go_enter Tryd.func43, Tryd.ntmps43
            go_wp2_with fail
            go_ret
            exact ⟨rfl, hb0⟩
          | true =>
            cases e6 : decide (x.mx ≤ y.mx) with
            | false =>
              rw [HE.out, e1, e2, e3, e4, e5, e6]
              clear HE
              go_enter Tryd.func43, Tryd.ntmps43
              go_wp2_with fail
              go_ret
              exact ⟨rfl, hb0⟩
            | true =>
              rw [HE.out, e1, e2, e3, e4, e5, e6]
              clear HE
              go_enter Tryd.func43, Tryd.ntmps43
              go_wp2_with fail
              go_ret
              exact ⟨rfl, hb0⟩

/-- A list of texts, and an error. -/
def RetLs (l : List ByteArray) (err : Int) (w : World) (e : Ending) (w' : World) : Prop := ∃ v, e = .returned (.tuple #[v, errV err]) ∧ Sl strL w' v l ∧ Below w.heap.size w w'
theorem filt_step {D : Type} {l : List D} {p : D → Bool} {nm : D → ByteArray} {k : Nat} {d : D} (hd : l[k]? = some d) {r u : List ByteArray} (h : u = r ++ ((l.drop k).filter p).map nm) :
    u = (r ++ if p d then [nm d] else []) ++ ((l.drop (k + 1)).filter p).map nm := by
  rw [h, drop_cons hd, List.filter_cons]
  cases p d <;> simp
theorem lostK_neg {l : List Knd} {k : Knd} (h : kFind l k.name < 0) : lostK l k = true := by
  unfold lostK; split
  · simp [h]
  · rfl
theorem lostK_at {l : List Knd} {k d : Knd} {i : Nat} (h : kFind l k.name = i) (hd : l[i]? = some d) : lostK l k = !eqK k d := by
  unfold lostK; rw [h, Int.toNat_natCast, hd]
  simp only
  rw [decide_eq_false (by omega), Bool.false_or]
-- the append of a name, and the round's end
set_option maxRecDepth 100000 in
set_option maxHeartbeats 8000000 in
theorem loses_any (a b : Scm) (k1 b1 k2 b2 : Value) (w : World) (h1 : ScmR w k1 b1 a) (h2 : ScmR w k2 b2 b) :
    Calls Tryd.prog 10 #[.agg #[k1, b1], .agg #[k2, b2]] w (RetLs (losesR a b) (bothE a b) w) := by
  obtain ⟨A1, c1, rfl, hk1, hm1⟩ := h1.1.form
  obtain ⟨A2, c2, rfl, hk2, hm2⟩ := h1.2.form
  obtain ⟨A3, c3, rfl, hk3, hm3⟩ := h2.1.form
  obtain ⟨A4, c4, rfl, hk4, hm4⟩ := h2.2.form
  unfold maxLen at hm1 hm2 hm3 hm4
  obtain ⟨W0, hW0⟩ : ∃ W0, W0 = (w.alloc (.cells #[.slice A1 a.kinds.length c1, .slice A2 a.bonds.length c2] 25)).alloc (.cells #[.slice A3 b.kinds.length c3, .slice A4 b.bonds.length c4] 25) := ⟨_, rfl⟩
  have hb0 : Below w.heap.size w W0 := by rw [hW0]; exact ((Below.refl _ _).alloc (Nat.le_refl _) _).alloc (by simp) _
  have g0 : W0.heap[w.heap.size]? = some (.cells #[.slice A1 a.kinds.length c1, .slice A2 a.bonds.length c2] 25 (0, 0)) := by
    rw [hW0, Below.heap_alloc _ _ _ (by simp)]; exact heap_alloc_new _ _
  have g1 : W0.heap[w.heap.size + 1]? = some (.cells #[.slice A3 b.kinds.length c3, .slice A4 b.bonds.length c4] 25 (0, 0)) := by
    have := heap_alloc_new (w.alloc (.cells #[.slice A1 a.kinds.length c1, .slice A2 a.bonds.length c2] 25)) (.cells #[.slice A3 b.kinds.length c3, .slice A4 b.bonds.length c4] 25); rw [hW0]; simpa using this
  have hW0' := hW0.symm
  have x0 := block_cell g0 0
  have x1 := block_cell g0 1
  have y0 := block_cell g1 0
  have y1 := block_cell g1 1
  have hbt := both_any a b _ _ _ _ W0 (h1.below hb0) (h2.below hb0)
  have H1 := Lib.hid (h1.below hb0)
  have H2 := Lib.hid (h2.below hb0)
  have hw0 := hb0.size
  obtain ⟨i0, ei, ez, ez1, ez2⟩ := info_parts str_info
  have HBO : Hid (bothE a b = 0 → (scmE a).2 = 0 ∧ (scmE b).2 = 0) := by
    intro h
    unfold bothE at h
    split at h
    · rename_i h0; exact ⟨h0, h⟩
    · rename_i h0; exact absurd h h0
  have HLR : Hid (losesR a b = if bothE a b = 0 then losesL a b else []) := rfl
  generalize hz : bothE a b = z at *
  clear h1 h2 hW0 g0 g1 hz
  go_enter Tryd.func10, Tryd.ntmps10
  go_wp2_with fail
  refine hbt.mono ?_
  clear hbt hW0'
  rintro e W1 ⟨rfl, hb1⟩
  have hB1 := hb0.trans (hb1.mono hw0)
  by_cases he : z = 0
  case neg =>
    have HE : Hid (errV z = .iface 83 (.int .i64 z) ∧ losesR a b = []) := ⟨errV_some he, by rw [HLR.out, if_neg he]⟩
    rw [errV_some he]
    clear he HLR
    go_wp2_with fail
    go_ret2
    exact ⟨.slice none 0 0, by rw [HE.out.1]; rfl, by rw [HE.out.2]; exact Sl.nil 0 (Nat.zero_le _) none, hB1⟩
  obtain ⟨ea, eb⟩ := HBO.out he
  have ska := scmE_zero ea
  have skb := scmE_zero eb
  have la1 := ska.r.len
  have la2 := ska.bl
  have lb1 := skb.r.len
  have lb2 := skb.bl
  have la1' : (a.kinds.length : Int) ≤ 12 := by omega
  have la2' : (a.bonds.length : Int) ≤ 12 := by omega
  have HE : Hid (errV z = .nilIface ∧ losesR a b = losesL a b) := ⟨errV_zero he, by rw [HLR.out, if_pos he]⟩
  have x0 := cell_below hb1 x0
  have x1 := cell_below hb1 x1
  have y0 := cell_below hb1 y0
  have y1 := cell_below hb1 y1
  have H1 := Lib.hid (H1.out.below hb1)
  have H2 := Lib.hid (H2.out.below hb1)
  have HLL : Hid (losesL a b = (a.kinds.filter (lostK b.kinds)).map (·.name) ++ (a.bonds.filter (lostB b.bonds)).map (·.name)) := rfl
  rw [errV_zero he]
  clear he HLR HBO ea eb ska skb hb1
  generalize hkl : (a.kinds.filter (lostK b.kinds)).map (·.name) = kl at *
  have HKL := Lib.hid hkl
  have Y1 := Lib.hid y1
  clear hkl
  go_wp2_with fail
  go_loopw [7, 22] (fun ov i wr => ∃ (k : Nat) (r : List ByteArray), k ≤ a.kinds.length ∧ i = .int .i64 k ∧ r.length ≤ 0 + k ∧ Below W1.heap.size W1 wr ∧ Own wr W1.heap.size 9 1 ov r.length (r.map Value.string) ∧
    Hid (∀ x ∈ r, Sm x) ∧ Hid (kl = r ++ ((a.kinds.drop k).filter (lostK b.kinds)).map (·.name))) (fun _ i _ => a.kinds.length - (intOf i).toNat)
  case atStart => exact ⟨0, [], Nat.zero_le _, rfl, Nat.le_refl _, Below.refl _ _, Own.nil _ _ _ _, (by intro x hx; simp at hx), by unfold Hid; rw [List.drop_zero, HKL.out]; rfl⟩
  case round =>
    obtain ⟨k, r, hk, rfl, hrk, hbr, hor, HR, HU⟩ := hrel
    obtain ⟨Ar, cr, rfl, _, _⟩ := hor.form
    have x0 := cell_below hbr x0
    have x1 := cell_below hbr x1
    have y0 := cell_below hbr y0
    have y1 := cell_below hbr y1
    by_cases hlt : k < a.kinds.length
    · obtain ⟨d, hd⟩ : ∃ d, a.kinds[k]? = some d := ⟨_, List.getElem?_eq_getElem hlt⟩
      obtain ⟨bb, o, rfl, u, x, hsm, hso, hsf, q0, q1, q2⟩ := knd_at (H1.out.below hbr).1 hd
      obtain ⟨E1, e1, rfl, _, _⟩ := hso.form
      obtain ⟨E2, e2, rfl, _, _⟩ := hsf.form
      obtain ⟨z0, z1, z2⟩ := cell_box3 wr (.string d.name) (.slice E1 d.ofs.length e1) (.slice E2 d.fields.length e2) 42
      have ha1 : Below wr.heap.size wr (wr.alloc (.cells #[.string d.name, .slice E1 d.ofs.length e1, .slice E2 d.fields.length e2] 42)) := (Below.refl _ _).alloc (Nat.le_refl _) _
      have hlt' : (k : Int) < (a.kinds.length : Int) := by omega
      have HS := Lib.hid (filt_step hd HU.out)
      have HSM := Lib.hid hsm
      have hbb := hbr.trans (ha1.mono hbr.size)
      have hkf := kFind_any b.kinds d.name _ _ ((H2.out.below hbb).1)
      have y0' := cell_below ha1 y0
      have HO := Lib.hid (hso.below ha1)
      have HF := Lib.hid (hsf.below ha1)
      have HOR := Lib.hid (hor.below ha1)
      have hkc := kFind_cases b.kinds d.name
      have HKN : Hid (kFind b.kinds d.name < 0 → lostK b.kinds d = true) := lostK_neg
      have HKA : Hid (∀ (i : Nat) x, kFind b.kinds d.name = i → b.kinds[i]? = some x → lostK b.kinds d = !eqK d x) := fun i x h hx => lostK_at h hx
      clear hd HU hso hsf hsm hor y0 x0 x1 y1
      go_upto_region 8 with fail
      generalize wr.alloc (.cells #[.string d.name, .slice E1 d.ofs.length e1, .slice E2 d.fields.length e2] 42) = Wa at *
      generalize kFind b.kinds d.name = fz at *
      go_wp2_with fail
      refine hkf.mono ?_
      clear hkf
      rintro e w3 ⟨rfl, hb3⟩
      have y0 := cell_below hb3 y0'
      have z0 := cell_below hb3 z0
      have z1 := cell_below hb3 z1
      have z2 := cell_below hb3 z2
      have hb13 := hbb.trans (hb3.mono hbb.size)
      have HOR := Lib.hid (HOR.out.below hb3)
      have HO := Lib.hid (HO.out.below hb3)
      have HF := Lib.hid (HF.out.below hb3)
      clear y0' hb3 ha1
      rcases hkc with hn | ⟨i, d2, rfl, hd2⟩
      · have hq : lostK b.kinds d = true := HKN.out hn
        have hn' : decide (fz < 0) = true := decide_eq_true hn
        clear HKA HKN
        go_wp2_with fail
        go_quiet (fail)
        have hown2 := HOR.out.drewN nq
        have hb12 := below_drewN hb13 nq
        have z0 := cell_below (below_drewN (Below.refl _ _) nq) z0
        generalize w3.drewN nq = w2 at *
        -- 43: slot of the list, 46: slot of the new piece; d.name: the name; ((a.kinds.drop (k + 1)).filter (lostK b.kinds)).map (·.name): what is left; kl: what is known of the whole
        have HN : Hid (kl = (r ++ [d.name]) ++ ((a.kinds.drop (k + 1)).filter (lostK b.kinds)).map (·.name)) := by unfold Hid; rw [HS.out, hq]; simp
        have HR2 : Hid (∀ x ∈ r ++ [d.name], Sm x) := by
          intro x hx
          rcases List.mem_append.1 hx with h | h
          · exact HR.out x h
          · simp at h; subst h; exact HSM.out
        clear hq HS
        go_wp2_with (at_builtin; refine wpList_append_q _ rfl (.tmp 43) (.tmp 46) _ rfl W1.heap.size 9 i0 (.string .empty) 1 16 Tryd.underlying27 ei ez ez1 ez2 rfl (by decide) (.slice Ar r.length cr) r.length (r.map Value.string) rfl (hown2.alloc _) (some ⟨w2.heap.size, 0, none⟩) 1 1 [.string d.name] rfl rfl (fun _ => ⟨_, rfl, by simpa using cell_one_new w2 (.string d.name) 9⟩) (by simp [Value.oneCell']) (by unfold maxLen; omega) (by omega) (by have := hb12.size; simp; omega) ?_; intro v7 w7 hown7 hg7 hat7)
        have hb7 : Below W1.heap.size W1 w7 := (hb12.alloc hb12.size _).grown hg7 (by have := hb12.size; simp; omega) (fun kk hkk => (hown2.lt kk hkk).1)
        have ho7 : Own w7 W1.heap.size 9 1 v7 (r ++ [d.name]).length ((r ++ [d.name]).map Value.string) := by simpa using hown7
        have hl7 : (r ++ [d.name]).length ≤ 0 + (k + 1) := by simp; omega
        clear hg7 hat7 hown7
        obtain ⟨A7, c7, rfl, _, _⟩ := ho7.form
        go_roundw
        case rel => exact ⟨k + 1, r ++ [d.name], by omega, by go_num, hl7, hb7, ho7, HR2, HN⟩
        case measure => simp [intOf]; omega
      · have hqe : lostK b.kinds d = !eqK d d2 := HKA.out i d2 rfl hd2
        have hi := (List.getElem?_eq_some_iff.1 hd2).1
        have hi' : (i : Int) < (b.kinds.length : Int) := by omega
        have hn0 : decide ((i : Int) < 0) = false := decide_eq_false (by omega)
        obtain ⟨b3, o3, rfl, u3, x3, hsm3, hso3, hsf3, p0, p1, p2⟩ := knd_at (H2.out.below hb13).1 hd2
        obtain ⟨E3, e3, rfl, _, _⟩ := hso3.form
        obtain ⟨E4, e4, rfl, _, _⟩ := hsf3.form
        have HO3 := Lib.hid hso3
        have HF3 := Lib.hid hsf3
        clear HKA HKN hd2 hsm3 hso3 hsf3
        go_wp2_with fail
        refine wp_mid_g 9 _ rfl rfl (by kernel_rfl) ?_
        simp only [List.take_succ_cons, List.take_zero, List.drop_succ_cons, List.drop_zero]
        repeat (go_big_quiet_step (fail))
        refine wpQuiet_nil ?_
        refine ⟨by simp [Region.wanted, yielded, go_sem], ?_⟩
        intro _ hw'
        obtain ⟨nq, hw''⟩ := hw'
        subst hw''
        intro K hK
        have hcall := equalK_any d d2 _ _ _ _ (w3.drewN nq) (HO.out.below (below_drewN (Below.refl _ _) nq)) (HF.out.below (below_drewN (Below.refl _ _) nq)) (HO3.out.below (below_drewN (Below.refl _ _) nq)) (HF3.out.below (below_drewN (Below.refl _ _) nq))
        generalize eqK d d2 = qq at *
        go_wp2_with fail
        refine hcall.mono ?_
        clear hcall
        rintro e w4 ⟨rfl, hb4⟩
        have hb34 := (below_drewN (Below.refl w3.heap.size w3) nq).trans hb4
        refine hK _ _ ?_
        repeat (go_big_quiet_step (fail))
        refine wpQuiet_nil ?_
        intro _ hw'
        obtain ⟨nq2, hw''⟩ := hw'
        subst hw''
        clear hK
        have hbW := below_drewN hb34 nq2
        generalize w4.drewN nq2 = w2 at *
        have hown2 := HOR.out.below hbW
        have hb12 := hb13.trans (hbW.mono hb13.size)
        have z0 := cell_below hbW z0
        clear z1 z2 y0 p0 p1 p2 hb4 hb34 hbW hb13 hbb
        cases qq with
        | true =>
          have hq : lostK b.kinds d = false := hqe
          clear hqe
          have HN : Hid (kl = r ++ ((a.kinds.drop (k + 1)).filter (lostK b.kinds)).map (·.name)) := by unfold Hid; rw [HS.out, hq]; simp
          clear hq HS
          go_wp2_with fail
          go_roundw
          case rel => exact ⟨k + 1, r, by omega, by go_num, by omega, hb12, hown2, HR, HN⟩
          case measure => simp [intOf]; omega
        | false =>
          have hq : lostK b.kinds d = true := hqe
          clear hqe
          -- 43: slot of the list, 46: slot of the new piece; d.name: the name; ((a.kinds.drop (k + 1)).filter (lostK b.kinds)).map (·.name): what is left; kl: what is known of the whole
          have HN : Hid (kl = (r ++ [d.name]) ++ ((a.kinds.drop (k + 1)).filter (lostK b.kinds)).map (·.name)) := by unfold Hid; rw [HS.out, hq]; simp
          have HR2 : Hid (∀ x ∈ r ++ [d.name], Sm x) := by
            intro x hx
            rcases List.mem_append.1 hx with h | h
            · exact HR.out x h
            · simp at h; subst h; exact HSM.out
          clear hq HS
          go_wp2_with (at_builtin; refine wpList_append_q _ rfl (.tmp 43) (.tmp 46) _ rfl W1.heap.size 9 i0 (.string .empty) 1 16 Tryd.underlying27 ei ez ez1 ez2 rfl (by decide) (.slice Ar r.length cr) r.length (r.map Value.string) rfl (hown2.alloc _) (some ⟨w2.heap.size, 0, none⟩) 1 1 [.string d.name] rfl rfl (fun _ => ⟨_, rfl, by simpa using cell_one_new w2 (.string d.name) 9⟩) (by simp [Value.oneCell']) (by unfold maxLen; omega) (by omega) (by have := hb12.size; simp; omega) ?_; intro v7 w7 hown7 hg7 hat7)
          have hb7 : Below W1.heap.size W1 w7 := (hb12.alloc hb12.size _).grown hg7 (by have := hb12.size; simp; omega) (fun kk hkk => (hown2.lt kk hkk).1)
          have ho7 : Own w7 W1.heap.size 9 1 v7 (r ++ [d.name]).length ((r ++ [d.name]).map Value.string) := by simpa using hown7
          have hl7 : (r ++ [d.name]).length ≤ 0 + (k + 1) := by simp; omega
          clear hg7 hat7 hown7
          obtain ⟨A7, c7, rfl, _, _⟩ := ho7.form
          go_roundw
          case rel => exact ⟨k + 1, r ++ [d.name], by omega, by go_num, hl7, hb7, ho7, HR2, HN⟩
          case measure => simp [intOf]; omega
    · obtain rfl : k = a.kinds.length := by omega
      have HQ : Hid (kl = r) := by unfold Hid; rw [HU.out, List.drop_length]; simp
      have HOR0 := Lib.hid hor
      have hbr0 := Lib.hid hbr
      have HLL2 : Hid (losesL a b = r ++ (a.bonds.filter (lostB b.bonds)).map (·.name)) := by unfold Hid; rw [HLL.out, HQ.out]
      have hl0 : r.length ≤ 12 := by omega
      have HRR := Lib.hid HR.out
      clear HU HLL HR hor hbr
      generalize hr0 : r = r0 at *
      clear hr0
      go_wp2_with fail
      go_loopw [7, 52] (fun ov i wr => ∃ (k : Nat) (r : List ByteArray), k ≤ a.bonds.length ∧ i = .int .i64 k ∧ r.length ≤ 12 + k ∧ Below W1.heap.size W1 wr ∧ Own wr W1.heap.size 9 1 ov r.length (r.map Value.string) ∧
        Hid (∀ x ∈ r, Sm x) ∧ Hid (losesL a b = r ++ ((a.bonds.drop k).filter (lostB b.bonds)).map (·.name))) (fun _ i _ => a.bonds.length - (intOf i).toNat)
      case atStart => exact ⟨0, r0, Nat.zero_le _, rfl, by omega, hbr0.out, HOR0.out, HRR, by unfold Hid; rw [List.drop_zero, HLL2.out]⟩
      case round =>
        obtain ⟨k, r, hk, rfl, hrk, hbr, hor, HR, HU⟩ := hrel
        obtain ⟨Ar, cr, rfl, _, _⟩ := hor.form
        by_cases hlt : k < a.bonds.length
        · obtain ⟨d, hd⟩ : ∃ d, a.bonds[k]? = some d := ⟨_, List.getElem?_eq_getElem hlt⟩
          have y1 := cell_below hbr Y1.out
          obtain ⟨bb, o, rfl, hok, q0, q1, q2, q3, q4⟩ := bnd_at (H1.out.below hbr).2 hd
          obtain ⟨z0, z1, z2, z3, z4⟩ := cell_box5 wr (.string d.name) (.string d.src) (.string d.dst) (.int .i64 d.mn) (.int .i64 d.mx) 77
          have ha1 : Below wr.heap.size wr (wr.alloc (.cells #[.string d.name, .string d.src, .string d.dst, .int .i64 d.mn, .int .i64 d.mx] 77)) := (Below.refl _ _).alloc (Nat.le_refl _) _
          have hlt' : (k : Int) < (a.bonds.length : Int) := by omega
          have HS := Lib.hid (filt_step hd HU.out)
          have HSM : Hid (Sm d.name) := hok.1
          have hbb := hbr.trans (ha1.mono hbr.size)
          have hct := containsBnd_any b.bonds d _ _ ((H2.out.below hbb).2)
          have y1' := cell_below ha1 y1
          have HOR := Lib.hid (hor.below ha1)
          have HLB : Hid (lostB b.bonds d = !(b.bonds.any fun y => decide (d = y))) := rfl
          clear hd HU hok hor y1
          go_upto_region 15 with fail
          generalize wr.alloc (.cells #[.string d.name, .string d.src, .string d.dst, .int .i64 d.mn, .int .i64 d.mx] 77) = Wa at *
          generalize (b.bonds.any fun y => decide (d = y)) = qq at *
          go_wp2_with fail
          refine hct.mono ?_
          clear hct
          rintro e w2 ⟨rfl, hb3⟩
          have z0 := cell_below hb3 z0
          have hb12 := hbb.trans (hb3.mono hbb.size)
          have hown2 := HOR.out.below hb3
          clear z1 z2 z3 z4 y1' q0 q1 q2 q3 q4 hb3 ha1 hbb
          cases qq with
          | true =>
            have hq : lostB b.bonds d = false := HLB.out
            have HN : Hid (losesL a b = r ++ ((a.bonds.drop (k + 1)).filter (lostB b.bonds)).map (·.name)) := by unfold Hid; rw [HS.out, hq]; simp
            clear hq HS
            go_wp2_with fail
            go_roundw
            case rel => exact ⟨k + 1, r, by omega, by go_num, by omega, hb12, hown2, HR, HN⟩
            case measure => simp [intOf]; omega
          | false =>
            have hq : lostB b.bonds d = true := HLB.out
            -- 61: slot of the list, 64: slot of the new piece; d.name: the name; ((a.bonds.drop (k + 1)).filter (lostB b.bonds)).map (·.name): what is left; losesL a b: what is known of the whole
            have HN : Hid (losesL a b = (r ++ [d.name]) ++ ((a.bonds.drop (k + 1)).filter (lostB b.bonds)).map (·.name)) := by unfold Hid; rw [HS.out, hq]; simp
            have HR2 : Hid (∀ x ∈ r ++ [d.name], Sm x) := by
              intro x hx
              rcases List.mem_append.1 hx with h | h
              · exact HR.out x h
              · simp at h; subst h; exact HSM.out
            clear hq HS
            go_wp2_with (at_builtin; refine wpList_append_q _ rfl (.tmp 61) (.tmp 64) _ rfl W1.heap.size 9 i0 (.string .empty) 1 16 Tryd.underlying27 ei ez ez1 ez2 rfl (by decide) (.slice Ar r.length cr) r.length (r.map Value.string) rfl (hown2.alloc _) (some ⟨w2.heap.size, 0, none⟩) 1 1 [.string d.name] rfl rfl (fun _ => ⟨_, rfl, by simpa using cell_one_new w2 (.string d.name) 9⟩) (by simp [Value.oneCell']) (by unfold maxLen; omega) (by omega) (by have := hb12.size; simp; omega) ?_; intro v7 w7 hown7 hg7 hat7)
            have hb7 : Below W1.heap.size W1 w7 := (hb12.alloc hb12.size _).grown hg7 (by have := hb12.size; simp; omega) (fun kk hkk => (hown2.lt kk hkk).1)
            have ho7 : Own w7 W1.heap.size 9 1 v7 (r ++ [d.name]).length ((r ++ [d.name]).map Value.string) := by simpa using hown7
            have hl7 : (r ++ [d.name]).length ≤ 12 + (k + 1) := by simp; omega
            clear hg7 hat7 hown7
            obtain ⟨A7, c7, rfl, _, _⟩ := ho7.form
            go_roundw
            case rel => exact ⟨k + 1, r ++ [d.name], by omega, by go_num, hl7, hb7, ho7, HR2, HN⟩
            case measure => simp [intOf]; omega
        · obtain rfl : k = a.bonds.length := by omega
          have HQ : Hid (losesL a b = r) := by unfold Hid; rw [HU.out, List.drop_length]; simp
          have hsl := hor.strs HR.out
          have hBr := hB1.trans (hbr.mono hB1.size)
          go_wp2_with fail
          go_ret2
          exact ⟨.slice Ar r.length cr, by rw [HE.out.1]; rfl, by rw [HE.out.2, HQ.out]; exact hsl, hBr⟩
end Go.Proofs.YthefofclbepkoaaDoor

/- Contract of the references: kinref2.Loses. No condition. -/
namespace Go.Proofs.YthefofclbepkoaaDoor
open Go Go.RowKit


theorem lostB2_neg {l : List Bnd} {k : Bnd} (h : bFind l k.name < 0) : lostB2 l k = true := by
  unfold lostB2; split
  · simp [h]
  · rfl
theorem lostB2_at {l : List Bnd} {k d : Bnd} {i : Nat} (h : bFind l k.name = i) (hd : l[i]? = some d) : lostB2 l k = !decide (k = d) := by
  unfold lostB2; rw [h, Int.toNat_natCast, hd]
  simp only
  rw [decide_eq_false (by omega), Bool.false_or]
theorem bFind_cases2 (l : List Bnd) (nm : ByteArray) : bFind l nm < 0 ∨ ∃ (i : Nat) (d : Bnd), bFind l nm = i ∧ l[i]? = some d := by
  by_cases h : bFind l nm < 0
  · exact .inl h
  · obtain ⟨i, d, h1, h2, _⟩ := idxI_nonneg (p := fun b : Bnd => decide (b.name = nm)) (l := l) (by unfold bFind at h; omega)
    exact .inr ⟨i, d, h1, h2⟩
-- the append of a name, and the round's end
set_option maxRecDepth 100000 in
set_option maxHeartbeats 8000000 in
theorem rloses_any (a b : Scm) (k1 b1 k2 b2 : Value) (w : World) (h1 : ScmR w k1 b1 a) (h2 : ScmR w k2 b2 b) (hla : a.kinds.length ≤ 12) (hlb : a.bonds.length ≤ 12) (hlc : b.kinds.length ≤ 12) (hld : b.bonds.length ≤ 12) :
    Calls Tryd.prog 8 #[.agg #[k1, b1], .agg #[k2, b2]] w fun e w' => ∃ v, e = .returned v ∧ Sl strL w' v (losesS a b) ∧ Below w.heap.size w w' := by
  obtain ⟨A1, c1, rfl, hk1, hm1⟩ := h1.1.form
  obtain ⟨A2, c2, rfl, hk2, hm2⟩ := h1.2.form
  obtain ⟨A3, c3, rfl, hk3, hm3⟩ := h2.1.form
  obtain ⟨A4, c4, rfl, hk4, hm4⟩ := h2.2.form
  unfold maxLen at hm1 hm2 hm3 hm4
  obtain ⟨W1, hW1⟩ : ∃ W1, W1 = (w.alloc (.cells #[.slice A1 a.kinds.length c1, .slice A2 a.bonds.length c2] 25)).alloc (.cells #[.slice A3 b.kinds.length c3, .slice A4 b.bonds.length c4] 25) := ⟨_, rfl⟩
  have hb0 : Below w.heap.size w W1 := by rw [hW1]; exact ((Below.refl _ _).alloc (Nat.le_refl _) _).alloc (by simp) _
  have g0 : W1.heap[w.heap.size]? = some (.cells #[.slice A1 a.kinds.length c1, .slice A2 a.bonds.length c2] 25 (0, 0)) := by
    rw [hW1, Below.heap_alloc _ _ _ (by simp)]; exact heap_alloc_new _ _
  have g1 : W1.heap[w.heap.size + 1]? = some (.cells #[.slice A3 b.kinds.length c3, .slice A4 b.bonds.length c4] 25 (0, 0)) := by
    have := heap_alloc_new (w.alloc (.cells #[.slice A1 a.kinds.length c1, .slice A2 a.bonds.length c2] 25)) (.cells #[.slice A3 b.kinds.length c3, .slice A4 b.bonds.length c4] 25); rw [hW1]; simpa using this
  have hW1' := hW1.symm
  have x0 := block_cell g0 0
  have x1 := block_cell g0 1
  have y0 := block_cell g1 0
  have y1 := block_cell g1 1
  have H1 := Lib.hid (h1.below hb0)
  have H2 := Lib.hid (h2.below hb0)
  obtain ⟨i0, ei, ez, ez1, ez2⟩ := info_parts str_info
  have hla' : (a.kinds.length : Int) ≤ 12 := by omega
  have hlb' : (a.bonds.length : Int) ≤ 12 := by omega
  have HLL : Hid (losesS a b = (a.kinds.filter (lostK b.kinds)).map (·.name) ++ (a.bonds.filter (lostB2 b.bonds)).map (·.name)) := rfl
  generalize hkl : (a.kinds.filter (lostK b.kinds)).map (·.name) = kl at *
  have HKL := Lib.hid hkl
  have X1 := Lib.hid x1
  have Y1 := Lib.hid y1
  clear hkl h1 h2 g0 g1 hW1 x1 y1
  go_enter Tryd.func8, Tryd.ntmps8
  go_wp2_with fail
  clear hW1'
  go_loopw [5, 6] (fun ov i wr => ∃ (k : Nat) (r : List ByteArray), k ≤ a.kinds.length ∧ i = .int .i64 k ∧ r.length ≤ 0 + k ∧ Below W1.heap.size W1 wr ∧ Own wr W1.heap.size 9 1 ov r.length (r.map Value.string) ∧
    Hid (∀ x ∈ r, Sm x) ∧ Hid (kl = r ++ ((a.kinds.drop k).filter (lostK b.kinds)).map (·.name))) (fun _ i _ => a.kinds.length - (intOf i).toNat)
  case atStart => exact ⟨0, [], Nat.zero_le _, rfl, Nat.le_refl _, Below.refl _ _, Own.nil _ _ _ _, (by intro x hx; simp at hx), by unfold Hid; rw [List.drop_zero, HKL.out]; rfl⟩
  case round =>
    obtain ⟨k, r, hk, rfl, hrk, hbr, hor, HR, HU⟩ := hrel
    obtain ⟨Ar, cr, rfl, _, _⟩ := hor.form
    have x0 := cell_below hbr x0
    have y0 := cell_below hbr y0
    by_cases hlt : k < a.kinds.length
    · obtain ⟨d, hd⟩ : ∃ d, a.kinds[k]? = some d := ⟨_, List.getElem?_eq_getElem hlt⟩
      obtain ⟨bb, o, rfl, u, x, hsm, hso, hsf, q0, q1, q2⟩ := knd_at (H1.out.below hbr).1 hd
      obtain ⟨E1, e1, rfl, _, _⟩ := hso.form
      obtain ⟨E2, e2, rfl, _, _⟩ := hsf.form
      have hlt' : (k : Int) < (a.kinds.length : Int) := by omega
      have HS := Lib.hid (filt_step hd HU.out)
      have HSM := Lib.hid hsm
      have HO := Lib.hid hso
      have HF := Lib.hid hsf
      have HOR := Lib.hid hor
      have hkc := kFind_cases b.kinds d.name
      have HKN : Hid (kFind b.kinds d.name < 0 → lostK b.kinds d = true) := lostK_neg
      have HKA : Hid (∀ (i : Nat) x, kFind b.kinds d.name = i → b.kinds[i]? = some x → lostK b.kinds d = !eqK d x) := fun i x h hx => lostK_at h hx
      have HKF : Hid (∀ W, Below wr.heap.size wr W → Calls Tryd.prog 30 #[.slice A3 b.kinds.length c3, .string d.name] W fun e w' => e = .returned (.int .i64 (kFind b.kinds d.name)) ∧ W = w') := fun W h => rkind_any b.kinds d.name _ W (H2.out.below (hbr.trans (h.mono hbr.size))).1
      clear hd HU hso hsf hsm hor
      generalize kFind b.kinds d.name = fz at *
      go_wp2_with fail
      refine wp_mid_k 8 _ rfl rfl (by kernel_rfl) (by kernel_rfl) ?_
      simp only [List.take_succ_cons, List.take_zero, List.drop_succ_cons, List.drop_zero]
      repeat (go_big_quiet_step (fail))
      refine wpQuiet_nil ?_
      intro _ hw'
      obtain ⟨nq, hw''⟩ := hw'
      subst hw''
      intro K hK
      have hkf := HKF.out (wr.drewN nq) (below_drewN (Below.refl _ _) nq)
      clear HKF
      go_wp2_with fail
      refine hkf.mono ?_
      clear hkf
      rintro e w' ⟨rfl, rfl⟩
      refine hK _ _ ?_
      repeat (go_big_quiet_step (fail))
      refine wpQuiet_nil ?_
      intro _ hw'
      obtain ⟨nq2, hw''⟩ := hw'
      subst hw''
      clear hK
      have hbq := below_drewN (below_drewN (Below.refl wr.heap.size wr) nq) nq2
      generalize (wr.drewN nq).drewN nq2 = w3 at *
      have x0 := cell_below hbq x0
      have y0 := cell_below hbq y0
      have q0 := cell_below hbq q0
      have q1 := cell_below hbq q1
      have q2 := cell_below hbq q2
      have hb13 := hbr.trans (hbq.mono hbr.size)
      have HOR := Lib.hid (HOR.out.below hbq)
      have HO := Lib.hid (HO.out.below hbq)
      have HF := Lib.hid (HF.out.below hbq)
      clear hbq
      rcases hkc with hn | ⟨i, d2, rfl, hd2⟩
      · have hq : lostK b.kinds d = true := HKN.out hn
        have hn' : decide (fz < 0) = true := decide_eq_true hn
        clear HKA HKN
        go_wp2_with fail
        go_quiet (fail)
        have hown2 := HOR.out.drewN nq
        have hb12 := below_drewN hb13 nq
        have x0 := cell_below (below_drewN (Below.refl _ _) nq) x0
        have q0 := cell_below (below_drewN (Below.refl _ _) nq) q0
        generalize w3.drewN nq = w2 at *
        -- 42: slot of the list, 49: slot of the new piece; d.name: the name; ((a.kinds.drop (k + 1)).filter (lostK b.kinds)).map (·.name): what is left; kl: what is known of the whole; 0: how many at most
        have HN : Hid (kl = (r ++ [d.name]) ++ ((a.kinds.drop (k + 1)).filter (lostK b.kinds)).map (·.name)) := by unfold Hid; rw [HS.out, hq]; simp
        have HR2 : Hid (∀ x ∈ r ++ [d.name], Sm x) := by
          intro x hx
          rcases List.mem_append.1 hx with h | h
          · exact HR.out x h
          · simp at h; subst h; exact HSM.out
        clear hq HS
        go_wp2_with (at_builtin; refine wpList_append_q _ rfl (.tmp 42) (.tmp 49) _ rfl W1.heap.size 9 i0 (.string .empty) 1 16 Tryd.underlying27 ei ez ez1 ez2 rfl (by decide) (.slice Ar r.length cr) r.length (r.map Value.string) rfl (hown2.alloc _) (some ⟨w2.heap.size, 0, none⟩) 1 1 [.string d.name] rfl rfl (fun _ => ⟨_, rfl, by simpa using cell_one_new w2 (.string d.name) 9⟩) (by simp [Value.oneCell']) (by unfold maxLen; omega) (by omega) (by have := hb12.size; simp; omega) ?_; intro v7 w7 hown7 hg7 hat7)
        have hb7 : Below W1.heap.size W1 w7 := (hb12.alloc hb12.size _).grown hg7 (by have := hb12.size; simp; omega) (fun kk hkk => (hown2.lt kk hkk).1)
        have ho7 : Own w7 W1.heap.size 9 1 v7 (r ++ [d.name]).length ((r ++ [d.name]).map Value.string) := by simpa using hown7
        have hl7 : (r ++ [d.name]).length ≤ 0 + (k + 1) := by simp; omega
        clear hg7 hat7 hown7
        obtain ⟨A7, c7, rfl, _, _⟩ := ho7.form
        go_roundw
        case rel => exact ⟨k + 1, r ++ [d.name], by omega, by go_num, hl7, hb7, ho7, HR2, HN⟩
        case measure => simp [intOf]; omega
      · have hqe : lostK b.kinds d = !eqK d d2 := HKA.out i d2 rfl hd2
        have hi := (List.getElem?_eq_some_iff.1 hd2).1
        have hi' : (i : Int) < (b.kinds.length : Int) := by omega
        have hn0 : decide ((i : Int) < 0) = false := decide_eq_false (by omega)
        obtain ⟨b3, o3, rfl, u3, x3, hsm3, hso3, hsf3, p0, p1, p2⟩ := knd_at (H2.out.below hb13).1 hd2
        obtain ⟨E3, e3, rfl, _, _⟩ := hso3.form
        obtain ⟨E4, e4, rfl, _, _⟩ := hsf3.form
        have HO3 := Lib.hid hso3
        have HF3 := Lib.hid hsf3
        clear HKA HKN hd2 hsm3 hso3 hsf3
        go_wp2_with fail
        refine wp_mid_g 13 _ rfl rfl (by kernel_rfl) ?_
        simp only [List.take_succ_cons, List.take_zero, List.drop_succ_cons, List.drop_zero]
        repeat (go_big_quiet_step (fail))
        refine wpQuiet_nil ?_
        refine ⟨by simp [Region.wanted, yielded, go_sem], ?_⟩
        intro _ hw'
        obtain ⟨nq, hw''⟩ := hw'
        subst hw''
        intro K hK
        have hcall := rlike_any d d2 _ _ _ _ (w3.drewN nq) (HO.out.below (below_drewN (Below.refl _ _) nq)) (HF.out.below (below_drewN (Below.refl _ _) nq)) (HO3.out.below (below_drewN (Below.refl _ _) nq)) (HF3.out.below (below_drewN (Below.refl _ _) nq))
        generalize eqK d d2 = qq at *
        go_wp2_with fail
        refine hcall.mono ?_
        clear hcall
        rintro e w4 ⟨rfl, hb4⟩
        have hb34 := (below_drewN (Below.refl w3.heap.size w3) nq).trans hb4
        refine hK _ _ ?_
        repeat (go_big_quiet_step (fail))
        refine wpQuiet_nil ?_
        intro _ hw'
        obtain ⟨nq2, hw''⟩ := hw'
        subst hw''
        clear hK
        have hbW := below_drewN hb34 nq2
        generalize w4.drewN nq2 = w2 at *
        have hown2 := HOR.out.below hbW
        have hb12 := hb13.trans (hbW.mono hb13.size)
        have x0 := cell_below hbW x0
        have q0 := cell_below hbW q0
        clear y0 q1 q2 p0 p1 p2 hb4 hb34 hbW hb13
        cases qq with
        | true =>
          have hq : lostK b.kinds d = false := hqe
          clear hqe
          have HN : Hid (kl = r ++ ((a.kinds.drop (k + 1)).filter (lostK b.kinds)).map (·.name)) := by unfold Hid; rw [HS.out, hq]; simp
          clear hq HS
          go_wp2_with fail
          go_roundw
          case rel => exact ⟨k + 1, r, by omega, by go_num, by omega, hb12, hown2, HR, HN⟩
          case measure => simp [intOf]; omega
        | false =>
          have hq : lostK b.kinds d = true := hqe
          clear hqe
          -- 42: slot of the list, 49: slot of the new piece; d.name: the name; ((a.kinds.drop (k + 1)).filter (lostK b.kinds)).map (·.name): what is left; kl: what is known of the whole; 0: how many at most
          have HN : Hid (kl = (r ++ [d.name]) ++ ((a.kinds.drop (k + 1)).filter (lostK b.kinds)).map (·.name)) := by unfold Hid; rw [HS.out, hq]; simp
          have HR2 : Hid (∀ x ∈ r ++ [d.name], Sm x) := by
            intro x hx
            rcases List.mem_append.1 hx with h | h
            · exact HR.out x h
            · simp at h; subst h; exact HSM.out
          clear hq HS
          go_wp2_with (at_builtin; refine wpList_append_q _ rfl (.tmp 42) (.tmp 49) _ rfl W1.heap.size 9 i0 (.string .empty) 1 16 Tryd.underlying27 ei ez ez1 ez2 rfl (by decide) (.slice Ar r.length cr) r.length (r.map Value.string) rfl (hown2.alloc _) (some ⟨w2.heap.size, 0, none⟩) 1 1 [.string d.name] rfl rfl (fun _ => ⟨_, rfl, by simpa using cell_one_new w2 (.string d.name) 9⟩) (by simp [Value.oneCell']) (by unfold maxLen; omega) (by omega) (by have := hb12.size; simp; omega) ?_; intro v7 w7 hown7 hg7 hat7)
          have hb7 : Below W1.heap.size W1 w7 := (hb12.alloc hb12.size _).grown hg7 (by have := hb12.size; simp; omega) (fun kk hkk => (hown2.lt kk hkk).1)
          have ho7 : Own w7 W1.heap.size 9 1 v7 (r ++ [d.name]).length ((r ++ [d.name]).map Value.string) := by simpa using hown7
          have hl7 : (r ++ [d.name]).length ≤ 0 + (k + 1) := by simp; omega
          clear hg7 hat7 hown7
          obtain ⟨A7, c7, rfl, _, _⟩ := ho7.form
          go_roundw
          case rel => exact ⟨k + 1, r ++ [d.name], by omega, by go_num, hl7, hb7, ho7, HR2, HN⟩
          case measure => simp [intOf]; omega
    · obtain rfl : k = a.kinds.length := by omega
      have HQ : Hid (kl = r) := by unfold Hid; rw [HU.out, List.drop_length]; simp
      have HOR0 := Lib.hid hor
      have hbr0 := Lib.hid hbr
      have HLL2 : Hid (losesS a b = r ++ (a.bonds.filter (lostB2 b.bonds)).map (·.name)) := by unfold Hid; rw [HLL.out, HQ.out]
      have hl0 : r.length ≤ 12 := by omega
      have HRR := Lib.hid HR.out
      clear HU HLL HR hor hbr
      generalize hr0 : r = r0 at *
      clear hr0 y0
      go_wp2_with fail
      go_loopw [5, 8] (fun ov i wr => ∃ (k : Nat) (r : List ByteArray), k ≤ a.bonds.length ∧ i = .int .i64 k ∧ r.length ≤ 12 + k ∧ Below W1.heap.size W1 wr ∧ Own wr W1.heap.size 9 1 ov r.length (r.map Value.string) ∧
        Hid (∀ x ∈ r, Sm x) ∧ Hid (losesS a b = r ++ ((a.bonds.drop k).filter (lostB2 b.bonds)).map (·.name))) (fun _ i _ => a.bonds.length - (intOf i).toNat)
      case atStart => exact ⟨0, r0, Nat.zero_le _, rfl, by omega, hbr0.out, HOR0.out, HRR, by unfold Hid; rw [List.drop_zero, HLL2.out]⟩
      case round =>
        obtain ⟨k, r, hk, rfl, hrk, hbr, hor, HR, HU⟩ := hrel
        obtain ⟨Ar, cr, rfl, _, _⟩ := hor.form
        clear x0
        have x1 := cell_below hbr X1.out
        by_cases hlt : k < a.bonds.length
        · obtain ⟨d, hd⟩ : ∃ d, a.bonds[k]? = some d := ⟨_, List.getElem?_eq_getElem hlt⟩
          have y1 := cell_below hbr Y1.out
          obtain ⟨bb, o, rfl, hok, q0, q1, q2, q3, q4⟩ := bnd_at (H1.out.below hbr).2 hd
          have hlt' : (k : Int) < (a.bonds.length : Int) := by omega
          have HS := Lib.hid (filt_step hd HU.out)
          have HSM : Hid (Sm d.name) := hok.1
          have HOR := Lib.hid hor
          have hkc := bFind_cases2 b.bonds d.name
          have HKN : Hid (bFind b.bonds d.name < 0 → lostB2 b.bonds d = true) := lostB2_neg
          have HKA : Hid (∀ (i : Nat) x, bFind b.bonds d.name = i → b.bonds[i]? = some x → lostB2 b.bonds d = !decide (d = x)) := fun i x h hx => lostB2_at h hx
          have HKF : Hid (∀ W, Below wr.heap.size wr W → Calls Tryd.prog 32 #[.slice A4 b.bonds.length c4, .string d.name] W fun e w' => e = .returned (.int .i64 (bFind b.bonds d.name)) ∧ W = w') := fun W h => rbond_any b.bonds d.name _ W (H2.out.below (hbr.trans (h.mono hbr.size))).2
          clear hd HU hok hor
          generalize bFind b.bonds d.name = fz at *
          go_wp2_with fail
          refine wp_mid_k 8 _ rfl rfl (by kernel_rfl) (by kernel_rfl) ?_
          simp only [List.take_succ_cons, List.take_zero, List.drop_succ_cons, List.drop_zero]
          repeat (go_big_quiet_step (fail))
          refine wpQuiet_nil ?_
          intro _ hw'
          obtain ⟨nq, hw''⟩ := hw'
          subst hw''
          intro K hK
          have hkf := HKF.out (wr.drewN nq) (below_drewN (Below.refl _ _) nq)
          clear HKF
          go_wp2_with fail
          refine hkf.mono ?_
          clear hkf
          rintro e w' ⟨rfl, rfl⟩
          refine hK _ _ ?_
          repeat (go_big_quiet_step (fail))
          refine wpQuiet_nil ?_
          intro _ hw'
          obtain ⟨nq2, hw''⟩ := hw'
          subst hw''
          clear hK
          have hbq := below_drewN (below_drewN (Below.refl wr.heap.size wr) nq) nq2
          generalize (wr.drewN nq).drewN nq2 = w3 at *
          have x1 := cell_below hbq x1
          have y1 := cell_below hbq y1
          have q0 := cell_below hbq q0
          have q1 := cell_below hbq q1
          have q2 := cell_below hbq q2
          have q3 := cell_below hbq q3
          have q4 := cell_below hbq q4
          have hb13 := hbr.trans (hbq.mono hbr.size)
          have HOR := Lib.hid (HOR.out.below hbq)
          clear hbq
          rcases hkc with hn | ⟨i, d2, rfl, hd2⟩
          · have hq : lostB2 b.bonds d = true := HKN.out hn
            have hn' : decide (fz < 0) = true := decide_eq_true hn
            clear HKA HKN q1 q2 q3 q4
            go_wp2_with fail
            go_quiet (fail)
            have hown2 := HOR.out.drewN nq
            have hb12 := below_drewN hb13 nq
            have x1 := cell_below (below_drewN (Below.refl _ _) nq) x1
            have q0 := cell_below (below_drewN (Below.refl _ _) nq) q0
            generalize w3.drewN nq = w2 at *
            -- 82: slot of the list, 89: slot of the new piece; d.name: the name; ((a.bonds.drop (k + 1)).filter (lostB2 b.bonds)).map (·.name): what is left; losesS a b: what is known of the whole; 12: how many at most
            have HN : Hid (losesS a b = (r ++ [d.name]) ++ ((a.bonds.drop (k + 1)).filter (lostB2 b.bonds)).map (·.name)) := by unfold Hid; rw [HS.out, hq]; simp
            have HR2 : Hid (∀ x ∈ r ++ [d.name], Sm x) := by
              intro x hx
              rcases List.mem_append.1 hx with h | h
              · exact HR.out x h
              · simp at h; subst h; exact HSM.out
            clear hq HS
            go_wp2_with (at_builtin; refine wpList_append_q _ rfl (.tmp 82) (.tmp 89) _ rfl W1.heap.size 9 i0 (.string .empty) 1 16 Tryd.underlying27 ei ez ez1 ez2 rfl (by decide) (.slice Ar r.length cr) r.length (r.map Value.string) rfl (hown2.alloc _) (some ⟨w2.heap.size, 0, none⟩) 1 1 [.string d.name] rfl rfl (fun _ => ⟨_, rfl, by simpa using cell_one_new w2 (.string d.name) 9⟩) (by simp [Value.oneCell']) (by unfold maxLen; omega) (by omega) (by have := hb12.size; simp; omega) ?_; intro v7 w7 hown7 hg7 hat7)
            have hb7 : Below W1.heap.size W1 w7 := (hb12.alloc hb12.size _).grown hg7 (by have := hb12.size; simp; omega) (fun kk hkk => (hown2.lt kk hkk).1)
            have ho7 : Own w7 W1.heap.size 9 1 v7 (r ++ [d.name]).length ((r ++ [d.name]).map Value.string) := by simpa using hown7
            have hl7 : (r ++ [d.name]).length ≤ 12 + (k + 1) := by simp; omega
            clear hg7 hat7 hown7
            obtain ⟨A7, c7, rfl, _, _⟩ := ho7.form
            go_roundw
            case rel => exact ⟨k + 1, r ++ [d.name], by omega, by go_num, hl7, hb7, ho7, HR2, HN⟩
            case measure => simp [intOf]; omega
          · have hqe : lostB2 b.bonds d = !decide (d = d2) := HKA.out i d2 rfl hd2
            have hi := (List.getElem?_eq_some_iff.1 hd2).1
            have hi' : (i : Int) < (b.bonds.length : Int) := by omega
            have hn0 : decide ((i : Int) < 0) = false := decide_eq_false (by omega)
            obtain ⟨b3, o3, rfl, _, p0, p1, p2, p3, p4⟩ := bnd_at (H2.out.below hb13).2 hd2
            have hneq := bnd_neq d d2
            have hgd := bnd_guard
            generalize decide (d = d2) = qq at *
            clear HKA HKN hd2
            cases qq with
            | true =>
              have hq : lostB2 b.bonds d = false := hqe
              clear hqe
              go_wp2_with fail
              go_quiet (fail)
              have hown2 := HOR.out.drewN nq
              have hb12 := below_drewN hb13 nq
              generalize w3.drewN nq = w2 at *
              clear hneq hgd x1 y1 q0 q1 q2 q3 q4 p0 p1 p2 p3 p4
              have HN : Hid (losesS a b = r ++ ((a.bonds.drop (k + 1)).filter (lostB2 b.bonds)).map (·.name)) := by unfold Hid; rw [HS.out, hq]; simp
              clear hq HS
              go_wp2_with fail
              go_roundw
              case rel => exact ⟨k + 1, r, by omega, by go_num, by omega, hb12, hown2, HR, HN⟩
              case measure => simp [intOf]; omega
            | false =>
              have hq : lostB2 b.bonds d = true := hqe
              clear hqe
              go_wp2_with fail
              go_quiet (fail)
              have hown2 := HOR.out.drewN nq
              have hb12 := below_drewN hb13 nq
              have x1 := cell_below (below_drewN (Below.refl _ _) nq) x1
              have q0 := cell_below (below_drewN (Below.refl _ _) nq) q0
              generalize w3.drewN nq = w2 at *
              clear hneq hgd y1 q1 q2 q3 q4 p0 p1 p2 p3 p4
              -- 82: slot of the list, 89: slot of the new piece; d.name: the name; ((a.bonds.drop (k + 1)).filter (lostB2 b.bonds)).map (·.name): what is left; losesS a b: what is known of the whole; 12: how many at most
              have HN : Hid (losesS a b = (r ++ [d.name]) ++ ((a.bonds.drop (k + 1)).filter (lostB2 b.bonds)).map (·.name)) := by unfold Hid; rw [HS.out, hq]; simp
              have HR2 : Hid (∀ x ∈ r ++ [d.name], Sm x) := by
                intro x hx
                rcases List.mem_append.1 hx with h | h
                · exact HR.out x h
                · simp at h; subst h; exact HSM.out
              clear hq HS
              go_wp2_with (at_builtin; refine wpList_append_q _ rfl (.tmp 82) (.tmp 89) _ rfl W1.heap.size 9 i0 (.string .empty) 1 16 Tryd.underlying27 ei ez ez1 ez2 rfl (by decide) (.slice Ar r.length cr) r.length (r.map Value.string) rfl (hown2.alloc _) (some ⟨w2.heap.size, 0, none⟩) 1 1 [.string d.name] rfl rfl (fun _ => ⟨_, rfl, by simpa using cell_one_new w2 (.string d.name) 9⟩) (by simp [Value.oneCell']) (by unfold maxLen; omega) (by omega) (by have := hb12.size; simp; omega) ?_; intro v7 w7 hown7 hg7 hat7)
              have hb7 : Below W1.heap.size W1 w7 := (hb12.alloc hb12.size _).grown hg7 (by have := hb12.size; simp; omega) (fun kk hkk => (hown2.lt kk hkk).1)
              have ho7 : Own w7 W1.heap.size 9 1 v7 (r ++ [d.name]).length ((r ++ [d.name]).map Value.string) := by simpa using hown7
              have hl7 : (r ++ [d.name]).length ≤ 12 + (k + 1) := by simp; omega
              clear hg7 hat7 hown7
              obtain ⟨A7, c7, rfl, _, _⟩ := ho7.form
              go_roundw
              case rel => exact ⟨k + 1, r ++ [d.name], by omega, by go_num, hl7, hb7, ho7, HR2, HN⟩
              case measure => simp [intOf]; omega
        · obtain rfl : k = a.bonds.length := by omega
          have HQ : Hid (losesS a b = r) := by unfold Hid; rw [HU.out, List.drop_length]; simp
          have hsl := hor.strs HR.out
          have hBr := hb0.trans (hbr.mono hb0.size)
          go_wp2_with fail
          go_ret
          exact ⟨.slice Ar r.length cr, rfl, by rw [HQ.out]; exact hsl, hBr⟩
end Go.Proofs.YthefofclbepkoaaDoor
