/- Parts: RcB, JoA. -/
import Derived.Test.YtdmpkgiijddcdaaGreatDoorMg11
import Derived.Test.YtdmpkgiijddcdaaGreatDoorMg12
import Derived.Test.YtdmpkgiijddcdaaGreatDoorMg06
import Derived.Test.YtdmpkgiijddcdaaGreatDoorMg07
import Derived.Test.YtdmpkgiijddcdaaGreatDoorMg08
/- Contract: record.Parse: a text as a record. Conditions: what the library's texts lean on (TxOk); the text is not too long. -/
namespace Go.Proofs.YtdmpkgiijddcdaaGreatDoor
open Go Go.RowKit

theorem val_ok {v : Val} (h : valE v = 0) : v.ok := by
  rcases val_parts h with ⟨h1, h2, h3, h4⟩ | ⟨h1, h2, h3⟩ | ⟨h1, h2, h3, _⟩
  · exact ⟨by rw [h1]; unfold I64; omega, by unfold I64; omega, by rw [h4]; unfold Sm; show (0 : Nat) ≤ _; omega⟩
  · exact ⟨by rw [h1]; unfold I64; omega, by unfold I64; omega, by rw [h3]; unfold Sm; show (0 : Nat) ≤ _; omega⟩
  · exact ⟨by rw [h1]; unfold I64; omega, by rw [h2]; unfold I64; omega, by unfold Sm; omega⟩
theorem cut_lens (c : UInt8) (l : List UInt8) : (Lib.cut l [c]).1.length ≤ l.length ∧ (Lib.cut l [c]).2.1.length ≤ l.length := by
  rcases cut_cases c l with ⟨h, _⟩ | ⟨a, r, rfl, _, h⟩
  · rw [h]; exact ⟨Nat.le_refl _, Nat.zero_le _⟩
  · rw [h]; simp; omega
theorem cutL_len (c : UInt8) (l : List UInt8) : (cutL c l).length ≤ l.length + 1 := by
  have key : ∀ (l : List UInt8) (q : Bool) (cur : List UInt8), (cutF c q cur l).length ≤ l.length + 1 := by
    intro l
    induction l with
    | nil => intro q cur; simp [cutF]
    | cons x l ih =>
      intro q cur
      rw [cutF_cons]
      split
      · have := ih (!q) (cur ++ [x]); simp; omega
      · split
        · have := ih false []; simp; omega
        · have := ih q (cur ++ [x]); simp; omega
  exact key l false []
theorem prp_info : (Tryz.prog.info? 62).map (fun i => (i.zero, i.size, i.bytes)) = some (some (.agg #[.string .empty, .int .i64 0, .int .i64 0, .string .empty]), 4, 48) := by kernel_rfl
theorem prp_snoc (l : List Prp) (p : Prp) : (l ++ [p]).flatMap Prp.enc = l.flatMap Prp.enc ++ Prp.enc p := by simp
set_option maxRecDepth 100000 in
set_option maxHeartbeats 8000000 in
theorem rparse_own (s : ByteArray) (hs : Sm s) (w : World) (hT : TxOk w) :
    Calls Tryz.prog 35 #[.string s] w fun e w' => ∃ A k, e = .returned (.tuple #[.slice A (readRV s.data.toList).length k, errV (readRE s.data.toList)]) ∧ OwnP w' w.heap.size (.slice A (readRV s.data.toList).length k) (readRV s.data.toList) ∧ Below w.heap.size w w' := by
  obtain ⟨i0, ei, ez, ez1, ez2⟩ := info_parts prp_info
  have hle := len_size s
  have e1 : (bs [45]).toList = [45] := by decide +kernel
  by_cases h1 : s = bs [45]
  · have HE : Hid (readRE s.data.toList = 0 ∧ readRV s.data.toList = []) := by
      unfold Hid; rw [h1, bs_list]; exact ⟨rfl, rfl⟩
    have h2 : s.toList = [45] := by rw [h1]; exact e1
    clear h1 e1 hle hT hs
    go_enter Tryz.func35, Tryz.ntmps35
    go_wp2_with fail
    go_ret2
    exact ⟨none, 0, by rw [HE.out.1, HE.out.2]; rfl, by rw [HE.out.2]; exact OwnP.nil, Below.refl _ _⟩
  have n1 : ¬ s.toList = [45] := fun e => h1 (by rw [← bytes_eq, e1]; exact e)
  have b1 : (s.toList == [45]) = false := beq_eq_false_iff_ne.2 n1
  have hl1 : s.data.toList ≠ [45] := fun e => h1 (by rw [← e, bs_of])
  have HRE : Hid (readRE s.data.toList = match propsP (cutL 44 s.data.toList) with | none => 2 | some r => recE r) := by
    unfold Hid readRE; rw [if_neg hl1]; rfl
  have HRV : Hid (readRV s.data.toList = match propsP (cutL 44 s.data.toList) with | none => [] | some r => if recE r = 0 then r else []) := by
    unfold Hid readRV; rw [if_neg hl1]; rfl
  have HXC := Lib.hid (fun wx => cut_any s 44 wx hs)
  have HT := Lib.hid hT
  unfold Sm at hs
  have hcl : (cutL 44 s.data.toList).length ≤ 1048577 := by have := cutL_len 44 s.data.toList; omega
  have HLE := Lib.hid hle
  generalize cutL 44 s.data.toList = P at *
  clear h1 e1 hl1 hT hle n1
  have hx := HXC.out w
  have e44 : (Value.int .u8 ((44 : UInt8).toNat : Int)) = .int .u8 44 := rfl
  rw [e44] at hx
  clear HXC
  go_enter Tryz.func35, Tryz.ntmps35
  go_wp2_with fail
  refine hx.mono ?_
  clear hx
  rintro e w1 ⟨A1, c1, rfl, hsl, hb1⟩
  have HSL := Lib.hid hsl
  have HT1 := Lib.hid (HT.out.below hb1)
  clear hsl HT
  go_wp2_with fail
  go_loopw [4, 6, 7, 8, 9, 10, 11, 18] (fun x4 _ _ _ _ _ _ i wr => ∃ (k : Nat) (u : List Prp), k ≤ P.length ∧ u.length = k ∧ i = .int .i64 k ∧ Below w1.heap.size w1 wr ∧ Hid (propsP (P.take k) = some u ∧ ∀ p ∈ u, p.ok) ∧ Hid (Own wr w1.heap.size 62 4 x4 k (u.flatMap Prp.enc))) (fun _ _ _ _ _ _ _ i _ => P.length - (intOf i).toNat)
  case atStart => exact ⟨0, [], Nat.zero_le _, rfl, rfl, Below.refl _ _, ⟨rfl, fun _ h => by cases h⟩, Own.nil _ _ _ _⟩
  case round =>
    obtain ⟨k, u, hk, hu, rfl, hbr, HP, HO⟩ := hrel
    obtain ⟨wo, hwo⟩ : ∃ wo : World, wo = wr := ⟨_, rfl⟩
    subst hwo
    obtain ⟨A4, c4, rfl, hc4, _⟩ := HO.out.form
    have HU := Lib.hid hu
    clear hu
    by_cases hlt : k < P.length
    · obtain ⟨x, hx⟩ : ∃ x, P[k]? = some x := ⟨_, List.getElem?_eq_getElem hlt⟩
      have hlt' : (k : Int) < (P.length : Int) := by omega
      obtain ⟨gb, o, rfl, hxs, q0⟩ := str_at (HSL.out.below hbr) (d := bs x) (by rw [List.getElem?_map, hx]; rfl)
      obtain ⟨t1, t2⟩ := propsP_take HP.out.1 hx
      unfold Sm at hxs
      have hxl : (bs x).data.toList = x := bs_list x
      have hxz := bs_size x
      obtain ⟨l1, l2⟩ := cut_lens 61 x
      have hx1 := tx_cut (bs x) 61 wo (HT1.out.below hbr).toTxP (by omega)
      rw [hxl] at hx1
      have HPI : Hid (pieceP x = if (Lib.cut x [61]).2.2 = true ∧ readE (Lib.cut x [61]).2.1 = 0 then some ⟨bs (Lib.cut x [61]).1, readV (Lib.cut x [61]).2.1⟩ else none) := rfl
      have hx2 := fun wx => vparse_any (bs (Lib.cut x [61]).2.1) (by unfold Sm; rw [bs_size]; omega) wx
      rw [bs_list] at hx2
      have hna : (bs (Lib.cut x [61]).1).size ≤ 1048576 := by rw [bs_size]; omega
      obtain ⟨na, hnaE⟩ : ∃ na, na = (Lib.cut x [61]).1 := ⟨_, rfl⟩
      obtain ⟨va, hvaE⟩ : ∃ va, va = (Lib.cut x [61]).2.1 := ⟨_, rfl⟩
      obtain ⟨iz, hizE⟩ : ∃ iz, iz = (Lib.cut x [61]).2.2 := ⟨_, rfl⟩
      rw [← hnaE, ← hvaE, ← hizE] at hx1 HPI
      rw [← hvaE] at hx2
      rw [← hnaE] at hna
      have T1 := Lib.hid t1
      have T2 := Lib.hid t2
      have HRO : Hid (readE va = 0 → (readV va).ok) := fun h => val_ok (show_read h).1
      generalize readE va = re at *
      generalize readV va = rv at *
      obtain ⟨rt, rn, rs⟩ := rv
      clear hx hxl hxz l1 l2 hnaE hvaE hizE t1 t2 hk hxs
      generalize bs na = nb at *
      generalize bs va = vb at *
      generalize bs x = xb at *
      go_wp2_with fail
      refine hx1.mono ?_
      clear hx1 q0
      rintro e w2 ⟨rfl, hb2⟩
      have hB2 := hbr.trans (hb2.mono hbr.size)
      have hx3 := hx2 w2 ((HT1.out.below hbr).below hb2)
      have HO2 := Lib.hid (HO.out.below hb2)
      clear hx2 HO hb2 hbr
      go_wp2_with fail
      refine hx3.mono ?_
      clear hx3
      rintro e w3 ⟨rfl, hb3⟩
      have hB3 := hB2.trans (hb3.mono hB2.size)
      have HO3 := Lib.hid (HO2.out.below hb3)
      have ha := (Below.refl w3.heap.size w3).alloc (Nat.le_refl _) (.cells #[.int .i64 rt, .int .i64 rn, .string rs] 43)
      have hB4 := hB3.trans (ha.mono hB3.size)
      have HO4 := Lib.hid (HO3.out.below ha)
      have hbk := heap_alloc_new w3 (.cells #[.int .i64 rt, .int .i64 rn, .string rs] 43)
      clear HO2 HO3 hB2 hB3 hb3
      by_cases hgood : iz = true ∧ re = 0
      case neg =>
        have HN : Hid (readRE s.data.toList = 2 ∧ readRV s.data.toList = []) := by
          have hp : propsP P = none := T1.out (by rw [HPI.out, if_neg hgood])
          unfold Hid
          rw [HRE.out, HRV.out, hp]; exact ⟨rfl, rfl⟩
        have hBF := hb1.trans (hB4.mono hb1.size)
        clear HPI T1 T2 HRE HRV HRO HO4 HP
        cases iz with
        | false =>
          go_wp2_with fail
          go_ret2
          exact ⟨none, 0, by rw [HN.out.1, HN.out.2]; rfl, by rw [HN.out.2]; exact OwnP.nil, hBF⟩
        | true =>
          have hre : re ≠ 0 := fun e => hgood ⟨rfl, e⟩
          rw [errV_some hre]
          clear hgood hre
          go_wp2_with fail
          go_ret2
          exact ⟨none, 0, by rw [HN.out.1, HN.out.2]; rfl, by rw [HN.out.2]; exact OwnP.nil, hBF⟩
      obtain ⟨hg1, hg2⟩ := hgood
      have HN := Lib.hid (T2.out ⟨nb, rt, rn, rs⟩ (by rw [HPI.out, if_pos ⟨hg1, hg2⟩]))
      have hok : (⟨nb, rt, rn, rs⟩ : Prp).ok := ⟨hna, HRO.out hg2⟩
      have HOKN : Hid (∀ p ∈ u ++ [(⟨nb, rt, rn, rs⟩ : Prp)], p.ok) := fun p hp => by
        rcases List.mem_append.1 hp with hp | hp
        · exact HP.out.2 p hp
        · rcases List.mem_singleton.1 hp with rfl; exact hok
      rw [errV_zero hg2]
      subst hg1
      clear hg2 HPI T1 T2 HRO hok
      go_upto_region 9 with fail
      generalize w3.alloc (.cells #[.int .i64 rt, .int .i64 rn, .string rs] 43) = w4 at *
      have z0 := block_cell hbk 0
      have z1 := block_cell hbk 1
      have z2 := block_cell hbk 2
      have hA4 := hB4.alloc hB4.size (.cells #[.string nb, .int .i64 rt, .int .i64 rn, .string rs] 62)
      have HOA : Hid (Own (w4.alloc (.cells #[.string nb, .int .i64 rt, .int .i64 rn, .string rs] 62)) w1.heap.size 62 4 (.slice A4 k c4) k (u.flatMap Prp.enc)) := HO4.out.alloc _
      have HNW : Hid (∀ j v, ([.string nb, .int .i64 rt, .int .i64 rn, .string rs] : List Value)[j]? = some v → (w4.alloc (.cells #[.string nb, .int .i64 rt, .int .i64 rn, .string rs] 62)).cell? ⟨w4.heap.size, j, none⟩ = some v) := fun j v hj => by
        rw [World.cell?_alloc_at _ _ _ _ rfl]; simpa using hj
      clear HO4 hbk hB4 ha
      go_wp2_with (at_builtin; refine wpList_append_q _ rfl (.tmp 40) (.tmp 44) _ rfl w1.heap.size 62 i0 (.agg #[.string .empty, .int .i64 0, .int .i64 0, .string .empty]) 4 48 Tryz.underlying60 ei ez ez1 ez2 rfl (by decide) (.slice A4 k c4) k (u.flatMap Prp.enc) rfl HOA.out (some ⟨w4.heap.size, 0, none⟩) 1 1 [.string nb, .int .i64 rt, .int .i64 rn, .string rs] rfl rfl (fun _ => ⟨_, rfl, fun j v hj => by rw [addr_add, Nat.zero_add]; exact HNW.out j v hj⟩) (fun v hv => by simp at hv; rcases hv with rfl | rfl | rfl | rfl <;> rfl) (by unfold maxLen; omega) (by omega) (by have := hA4.size; exact this) ?_; intro v9 w9 hown9 hg9 hat9)
      have hB9 : Below w1.heap.size w1 w9 := hA4.grown hg9 hA4.size (fun kk e => (HOA.out.lt kk e).1)
      have HO9 : Hid (Own w9 w1.heap.size 62 4 v9 (k + 1) ((u ++ [(⟨nb, rt, rn, rs⟩ : Prp)]).flatMap Prp.enc)) := by unfold Hid; rw [prp_snoc]; exact hown9
      clear hg9 hat9 hown9 HOA HNW hA4 z0 z1 z2
      go_wp2_with fail
      go_roundw
      case rel => exact ⟨k + 1, u ++ [(⟨nb, rt, rn, rs⟩ : Prp)], by omega, by simp [HU.out], by go_num, hB9, ⟨HN.out, HOKN.out⟩, HO9⟩
      case measure => simp [intOf]; omega
    · obtain rfl : k = P.length := by omega
      have hdn : decide (P.length < P.length) = false := by simp
      have hpp : propsP P = some u := by have := HP.out.1; rwa [List.take_length] at this
      have HE : Hid (readRE s.data.toList = recE u ∧ readRV s.data.toList = if recE u = 0 then u else []) := by
        unfold Hid; rw [HRE.out, HRV.out, hpp]; exact ⟨rfl, rfl⟩
      have HS : Hid (Sl prpL wo (.slice A4 u.length c4) u) := Own.prps (by have h := HO.out; rw [← HU.out] at h; exact h) HP.out.2
      have HOW : Hid (Own wo w1.heap.size 62 4 (.slice A4 u.length c4) u.length (u.flatMap Prp.enc)) := by have h := HO.out; rw [← HU.out] at h; exact h
      have HPO : Hid (∀ p ∈ u, p.ok) := HP.out.2
      have hx := recCheck_any u (.slice A4 u.length c4) wo HS.out
      rw [HU.out] at hx
      have hBo := hb1.trans (hbr.mono hb1.size)
      generalize recE u = ee at *
      clear hpp HRE HRV HP HO hk hlt
      go_wp2_with fail
      refine hx.mono ?_
      clear hx
      rintro e w8 ⟨rfl, hb8⟩
      have hB8 := hBo.trans (hb8.mono hBo.size)
      by_cases hz : ee = 0
      · have HF : Hid (readRE s.data.toList = 0 ∧ readRV s.data.toList = u) := by
          unfold Hid; rw [HE.out.1, HE.out.2, if_pos hz]; exact ⟨hz, rfl⟩
        rw [errV_zero hz]
        clear hz HE
        go_wp2_with fail
        go_ret2
        refine ⟨A4, c4, ?_, ?_, hB8⟩
        · rw [HF.out.1, HF.out.2, HU.out]; rfl
        · rw [HF.out.2]
          exact ⟨(HOW.out.below hb8).mono hb1.size, HPO.out⟩
      · have HF : Hid (errV (readRE s.data.toList) = .iface 118 (.int .i64 ee) ∧ readRV s.data.toList = []) := by
          unfold Hid; rw [HE.out.1, HE.out.2, if_neg hz]; exact ⟨errV_some hz, rfl⟩
        rw [errV_some hz]
        clear hz HE
        go_wp2_with fail
        go_ret2
        exact ⟨none, 0, by rw [HF.out.1, HF.out.2]; rfl, by rw [HF.out.2]; exact OwnP.nil, hB8⟩
theorem rparse_any (s : ByteArray) (hs : Sm s) (w : World) (hT : TxOk w) :
    Calls Tryz.prog 35 #[.string s] w fun e w' => ∃ A k, e = .returned (.tuple #[.slice A (readRV s.data.toList).length k, errV (readRE s.data.toList)]) ∧ Sl prpL w' (.slice A (readRV s.data.toList).length k) (readRV s.data.toList) ∧ Below w.heap.size w w' :=
  (rparse_own s hs w hT).mono fun _ _ ⟨A, k, h1, h2, h3⟩ => ⟨A, k, h1, h2.1.prps h2.2, h3⟩

/-- The properties of one set into another one, one by one. -/
def joinG : List Prp → List Prp → Int × List Prp
  | r, [] => (0, r)
  | r, p :: o => if setE r p = 0 then joinG (setR r p) o else (setE r p, [])
theorem joinG_cons (r : List Prp) (p : Prp) (o : List Prp) : joinG r (p :: o) = if setE r p = 0 then joinG (setR r p) o else (setE r p, []) := rfl
def joinE (r o : List Prp) : Int := if recE r = 0 then (if recE o = 0 then (joinG r o).1 else recE o) else recE r
def joinR (r o : List Prp) : List Prp := if recE r = 0 ∧ recE o = 0 then (joinG r o).2 else []
theorem drop_consP {l : List Prp} {k : Nat} {x : Prp} (h : l[k]? = some x) : l.drop k = x :: l.drop (k + 1) := by
  obtain ⟨hk, e⟩ := List.getElem?_eq_some_iff.1 h
  rw [List.drop_eq_getElem_cons hk, e]
set_option maxRecDepth 100000 in
set_option maxHeartbeats 8000000 in
theorem join_any (r o : List Prp) (va vb : Value) (w : World) (ha : Sl prpL w va r) (hb : Sl prpL w vb o) :
    Calls Tryz.prog 31 #[va, vb] w (RetR (joinR r o) (joinE r o) w) := by
  obtain ⟨A1, c1, rfl, _, _⟩ := ha.form
  obtain ⟨A2, c2, rfl, hlc, hcm⟩ := hb.form
  unfold maxLen at hcm
  have HA := Lib.hid ha
  have HB := Lib.hid hb
  have HX : Hid (joinE r o = (if recE r = 0 then (if recE o = 0 then (joinG r o).1 else recE o) else recE r) ∧ joinR r o = if recE r = 0 ∧ recE o = 0 then (joinG r o).2 else []) := ⟨rfl, rfl⟩
  have hb0 : Below w.heap.size w (w.alloc (.cells #[.slice A1 r.length c1, .slice A2 o.length c2] 60)) := (Below.refl _ _).alloc (Nat.le_refl _) _
  obtain ⟨x0, x1⟩ := cell_box2 w (.slice A1 r.length c1) (.slice A2 o.length c2) 60
  have X := Lib.hid (And.intro x0 x1)
  clear ha hb x0 x1
  go_enter Tryz.func31, Tryz.ntmps31
  go_wp2_with fail
  generalize w.alloc (.cells #[.slice A1 r.length c1, .slice A2 o.length c2] 60) = W0 at *
  go_loopw [17] (fun i wr => ∃ k : Nat, k ≤ 2 ∧ i = .int .i64 k ∧ Below W0.heap.size W0 wr ∧ Hid (1 ≤ k → recE r = 0) ∧ Hid (2 ≤ k → recE o = 0)) (fun i _ => 2 - (intOf i).toNat)
  case atStart => exact ⟨0, by omega, rfl, Below.refl _ _, fun h => by omega, fun h => by omega⟩
  case round =>
    obtain ⟨k, hk, rfl, hbr, H1, H2⟩ := hrel
    obtain ⟨wo, hwo⟩ : ∃ wo : World, wo = wr := ⟨_, rfl⟩
    subst hwo
    have hB := hb0.trans (hbr.mono hb0.size)
    rcases (by omega : k = 0 ∨ k = 1 ∨ k = 2) with rfl | rfl | rfl
    · have y0 := cell_below hbr X.out.1
      have hx := recCheck_any r _ wo (HA.out.below hB)
      go_wp2_with fail
      refine hx.mono ?_
      clear hx y0
      rintro e w2 ⟨rfl, hb2⟩
      have hb3 := hbr.trans (hb2.mono hbr.size)
      have hB3 := hB.trans (hb2.mono hB.size)
      by_cases hz : recE r = 0
      · have HZ := Lib.hid hz
        rw [errV_zero hz]
        clear hz
        go_wp2_with fail
        go_roundw
        case rel => exact ⟨1, by omega, by go_num, hb3, fun _ => HZ.out, fun h => by omega⟩
        case measure => simp [intOf]
      · have HN : Hid (errV (joinE r o) = errV (recE r) ∧ joinR r o = []) := by
          unfold Hid; rw [HX.out.1, HX.out.2, if_neg hz, if_neg (fun h => hz h.1)]; exact ⟨rfl, rfl⟩
        have HEV := Lib.hid (errV_some hz)
        rw [HEV.out] at HN
        rw [errV_some hz]
        clear hz
        -- the answer: an error; above w: hB3
        go_wp2_with fail
        go_ret2
        exact ⟨.slice none 0 0, by rw [HN.out.1]; rfl, by rw [HN.out.2]; exact Sl.nil 0 (Nat.zero_le _) none, hB3⟩
    · have y1 := cell_below hbr X.out.2
      have hx := recCheck_any o _ wo (HB.out.below hB)
      go_wp2_with fail
      refine hx.mono ?_
      clear hx y1
      rintro e w2 ⟨rfl, hb2⟩
      have hb3 := hbr.trans (hb2.mono hbr.size)
      have hB3 := hB.trans (hb2.mono hB.size)
      by_cases hz : recE o = 0
      · have HZ := Lib.hid hz
        rw [errV_zero hz]
        clear hz
        go_wp2_with fail
        go_roundw
        case rel => exact ⟨2, by omega, by go_num, hb3, fun _ => H1.out (by omega), fun _ => HZ.out⟩
        case measure => simp [intOf]
      · have HN : Hid (errV (joinE r o) = errV (recE o) ∧ joinR r o = []) := by
          unfold Hid; rw [HX.out.1, HX.out.2, if_pos (H1.out (by omega)), if_neg hz, if_neg (fun h => hz h.2)]; exact ⟨rfl, rfl⟩
        have HEV := Lib.hid (errV_some hz)
        rw [HEV.out] at HN
        rw [errV_some hz]
        clear hz
        -- the answer: an error; above w: hB3
        go_wp2_with fail
        go_ret2
        exact ⟨.slice none 0 0, by rw [HN.out.1]; rfl, by rw [HN.out.2]; exact Sl.nil 0 (Nat.zero_le _) none, hB3⟩
    · have h1 := H1.out (by omega)
      have h2 := H2.out (by omega)
      have HX2 : Hid (joinE r o = (joinG r o).1 ∧ joinR r o = (joinG r o).2) := by
        unfold Hid; rw [HX.out.1, HX.out.2, if_pos h1, if_pos h2, if_pos ⟨h1, h2⟩]; exact ⟨rfl, rfl⟩
      have HR1 := Lib.hid h1
      clear h1 h2 HX H1 H2
      go_wp2_with fail
      go_loopw [0, 29] (fun v i wr => ∃ (k : Nat) (u : List Prp), k ≤ o.length ∧ i = .int .i64 k ∧ Below wo.heap.size wo wr ∧ Hid (Sl prpL wr v u) ∧ Hid (recE u = 0 ∧ joinG r o = joinG u (o.drop k))) (fun _ i _ => o.length - (intOf i).toNat)
      case atStart => exact ⟨0, r, Nat.zero_le _, rfl, Below.refl _ _, HA.out.below hB, HR1.out, by rw [List.drop_zero]⟩
      case round =>
        obtain ⟨k, u, hk, rfl, hbr2, HS, HG⟩ := hrel
        obtain ⟨w3, hw3⟩ : ∃ wo : World, wo = wr := ⟨_, rfl⟩
        subst hw3
        have hB3 := hB.trans (hbr2.mono hB.size)
        obtain ⟨Au, cu, rfl, _, _⟩ := HS.out.form
        by_cases hlt : k < o.length
        · obtain ⟨p, hp⟩ : ∃ d, o[k]? = some d := ⟨_, List.getElem?_eq_getElem hlt⟩
          have hlt' : (k : Int) < (o.length : Int) := by omega
          obtain ⟨gb, oo, rfl, hpok, c0, c1, c2, c3⟩ := prp_at (HB.out.below hB3) hp
          have HGD : Hid (joinG r o = if setE u p = 0 then joinG (setR u p) (o.drop (k + 1)) else (setE u p, [])) := by
            unfold Hid; rw [HG.out.2, drop_consP hp, joinG_cons]
          have HSR : Hid (setE u p = 0 → recE (setR u p) = 0) := fun h => (set_back h).1
          have ha4 : Below w3.heap.size w3 (w3.alloc (.cells #[.string p.name, .int .i64 p.v.ty, .int .i64 p.v.n, .string p.v.s] 62)) := (Below.refl _ _).alloc (Nat.le_refl _) _
          have hbx := heap_alloc_new w3 (.cells #[.string p.name, .int .i64 p.v.ty, .int .i64 p.v.n, .string p.v.s] 62)
          have hx := set_any u p _ (w3.alloc (.cells #[.string p.name, .int .i64 p.v.ty, .int .i64 p.v.n, .string p.v.s] 62)) (HS.out.below ha4) hpok
          have hb4 := hbr2.trans (ha4.mono hbr2.size)
          have hB4 := hB3.trans (ha4.mono hB3.size)
          have y0 := block_cell hbx 0
          have y1 := block_cell hbx 1
          have y2 := block_cell hbx 2
          have y3 := block_cell hbx 3
          clear hp hpok HG HS ha4 hbx
          go_upto_region 11 with fail
          generalize w3.alloc (.cells #[.string p.name, .int .i64 p.v.ty, .int .i64 p.v.n, .string p.v.s] 62) = w4 at *
          clear c0 c1 c2 c3
          go_wp2_with fail
          refine hx.mono ?_
          clear hx y0 y1 y2 y3
          rintro e w5 ⟨v5, rfl, hs5, hb5⟩
          have HS5 := Lib.hid hs5
          have hb6 := hb4.trans (hb5.mono hb4.size)
          have hB6 := hB4.trans (hb5.mono hB4.size)
          clear hs5
          by_cases hz : setE u p = 0
          · have HN : Hid (recE (setR u p) = 0 ∧ joinG r o = joinG (setR u p) (o.drop (k + 1))) := ⟨HSR.out hz, by rw [HGD.out, if_pos hz]⟩
            rw [errV_zero hz]
            clear hz HGD HSR
            go_wp2_with fail
            go_roundw
            case rel => ((repeat apply Exists.intro); exact ⟨⟨k + 1, setR u p, by omega, by go_num, hb6, HS5, HN⟩, rfl⟩)
            case measure => simp [intOf]; omega
          · have HN : Hid (errV (joinE r o) = errV (setE u p) ∧ joinR r o = []) := by
              unfold Hid; rw [HX2.out.1, HX2.out.2, HGD.out, if_neg hz]; exact ⟨rfl, rfl⟩
            have HEV := Lib.hid (errV_some hz)
            rw [HEV.out] at HN
            rw [errV_some hz]
            clear hz HGD HSR
            -- the answer: an error; above w: hB6
            go_wp2_with fail
            go_ret2
            exact ⟨.slice none 0 0, by rw [HN.out.1]; rfl, by rw [HN.out.2]; exact Sl.nil 0 (Nat.zero_le _) none, hB6⟩
        · obtain rfl : k = o.length := by omega
          have hcl := clone_prps HS.out (by have := (rec_ok HG.out.1).1; omega)
          have HN : Hid (joinE r o = 0 ∧ joinR r o = u) := by
            unfold Hid; rw [HX2.out.1, HX2.out.2, HG.out.2, List.drop_length]; exact ⟨rfl, rfl⟩
          clear HG HS
          go_wp2_with fail
          refine hcl.mono ?_
          clear hcl
          rintro e w5 ⟨v5, xs, rfl, hown, hrow, hb5⟩
          have HSL := Lib.hid (Own.row hown (hrow.below hb5))
          have hB5 := hB3.trans (hb5.mono hB3.size)
          clear hown hrow
          go_wp2_with fail
          go_ret2
          exact ⟨v5, by rw [HN.out.1]; rfl, by rw [HN.out.2]; exact HSL.out, hB5⟩
end Go.Proofs.YtdmpkgiijddcdaaGreatDoor
