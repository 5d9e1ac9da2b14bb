/- Parts: RecT, RcB, NumA, TrA. -/
import Derived.Test.YtflidfmpmakggaaGreatDoorMg07
import Derived.Test.YtflidfmpmakggaaGreatDoorMg08
import Derived.Test.YtflidfmpmakggaaGreatDoorMg13
import Derived.Test.YtflidfmpmakggaaGreatDoorMg14
import Derived.Test.YtflidfmpmakggaaGreatDoorMg04
import Derived.Test.YtflidfmpmakggaaGreatDoorMg09
import Derived.Test.YtflidfmpmakggaaGreatDoorMg03
import Derived.Test.YtflidfmpmakggaaGreatDoorMg12
import Derived.Deep.DeepCutAuto
import Derived.BigRegion
/- Contract: record.Set. -/
namespace Go.Proofs.YtflidfmpmakggaaGreatDoor
open Go Go.RowKit

/-- A record that is the call's own. -/
def OwnP (w : World) (B : Nat) (v : Value) (l : List Prp) : Prop := Own w B 181 4 v l.length (l.flatMap Prp.enc) ∧ ∀ x ∈ l, x.ok
theorem OwnP.nil {w : World} {B : Nat} : OwnP w B (.slice none 0 0) [] := ⟨Own.nil _ _ _ _, fun x hx => by cases hx⟩

theorem val_ok {v : Val} (h : valE v = 0) : v.ok := by
  rcases val_parts h with ⟨h1, h2, h3, h4⟩ | ⟨h1, h2, h3⟩ | ⟨h1, h2, h3, _⟩
  · exact ⟨by rw [h1]; unfold I64; omega, by unfold I64; omega, by rw [h4]; unfold Sm; show (0 : Nat) ≤ _; omega⟩
  · exact ⟨by rw [h1]; unfold I64; omega, by unfold I64; omega, by rw [h3]; unfold Sm; show (0 : Nat) ≤ _; omega⟩
  · exact ⟨by rw [h1]; unfold I64; omega, by rw [h2]; unfold I64; omega, by unfold Sm; omega⟩
theorem cut_lens (c : UInt8) (l : List UInt8) : (Lib.cut l [c]).1.length ≤ l.length ∧ (Lib.cut l [c]).2.1.length ≤ l.length := by
  rcases cut_cases c l with ⟨h, _⟩ | ⟨a, r, rfl, _, h⟩
  · rw [h]; exact ⟨Nat.le_refl _, Nat.zero_le _⟩
  · rw [h]; simp; omega
theorem cutL_len (c : UInt8) (l : List UInt8) : (cutL c l).length ≤ l.length + 1 := by
  have key : ∀ (l : List UInt8) (q : Bool) (cur : List UInt8), (cutF c q cur l).length ≤ l.length + 1 := by
    intro l
    induction l with
    | nil => intro q cur; simp [cutF]
    | cons x l ih =>
      intro q cur
      rw [cutF_cons]
      split
      · have := ih (!q) (cur ++ [x]); simp; omega
      · split
        · have := ih false []; simp; omega
        · have := ih q (cur ++ [x]); simp; omega
  exact key l false []
theorem prp_info : (Tryz.prog.info? 181).map (fun i => (i.zero, i.size, i.bytes)) = some (some (.agg #[.string .empty, .int .i64 0, .int .i64 0, .string .empty]), 4, 48) := by kernel_rfl
theorem prp_snoc (l : List Prp) (p : Prp) : (l ++ [p]).flatMap Prp.enc = l.flatMap Prp.enc ++ Prp.enc p := by simp
set_option maxRecDepth 100000 in
set_option maxHeartbeats 8000000 in
theorem rparse_own (s : ByteArray) (hs : Sm s) (w : World) (hT : TxOk w) :
    Calls Tryz.prog 110 #[.string s] w fun e w' => ∃ A k, e = .returned (.tuple #[.slice A (readRV s.data.toList).length k, errV (readRE s.data.toList)]) ∧ OwnP w' w.heap.size (.slice A (readRV s.data.toList).length k) (readRV s.data.toList) ∧ Below w.heap.size w w' := by
  obtain ⟨i0, ei, ez, ez1, ez2⟩ := info_parts prp_info
  have hle := len_size s
  have e1 : (bs [45]).toList = [45] := by decide +kernel
  by_cases h1 : s = bs [45]
  · have HE : Hid (readRE s.data.toList = 0 ∧ readRV s.data.toList = []) := by
      unfold Hid; rw [h1, bs_list]; exact ⟨rfl, rfl⟩
    have h2 : s.toList = [45] := by rw [h1]; exact e1
    clear h1 e1 hle hT hs
    go_enter Tryz.func110, Tryz.ntmps110
    go_wp2_with fail
    go_ret2
    exact ⟨none, 0, by rw [HE.out.1, HE.out.2]; rfl, by rw [HE.out.2]; exact OwnP.nil, Below.refl _ _⟩
  have n1 : ¬ s.toList = [45] := fun e => h1 (by rw [← bytes_eq, e1]; exact e)
  have b1 : (s.toList == [45]) = false := beq_eq_false_iff_ne.2 n1
  have hl1 : s.data.toList ≠ [45] := fun e => h1 (by rw [← e, bs_of])
  have HRE : Hid (readRE s.data.toList = match propsP (cutL 44 s.data.toList) with | none => 2 | some r => recE r) := by
    unfold Hid readRE; rw [if_neg hl1]; rfl
  have HRV : Hid (readRV s.data.toList = match propsP (cutL 44 s.data.toList) with | none => [] | some r => if recE r = 0 then r else []) := by
    unfold Hid readRV; rw [if_neg hl1]; rfl
  have HXC := Lib.hid (fun wx => cut_any s 44 wx hs)
  have HT := Lib.hid hT
  unfold Sm at hs
  have hcl : (cutL 44 s.data.toList).length ≤ 1048577 := by have := cutL_len 44 s.data.toList; omega
  have HLE := Lib.hid hle
  generalize cutL 44 s.data.toList = P at *
  clear h1 e1 hl1 hT hle n1
  have hx := HXC.out w
  have e44 : (Value.int .u8 ((44 : UInt8).toNat : Int)) = .int .u8 44 := rfl
  rw [e44] at hx
  clear HXC
  go_enter Tryz.func110, Tryz.ntmps110
  go_wp2_with fail
  refine hx.mono ?_
  clear hx
  rintro e w1 ⟨A1, c1, rfl, hsl, hb1⟩
  have HSL := Lib.hid hsl
  have HT1 := Lib.hid (HT.out.below hb1)
  clear hsl HT
  go_wp2_with fail
  go_loopw [4, 6, 7, 8, 9, 10, 11, 18] (fun x4 _ _ _ _ _ _ i wr => ∃ (k : Nat) (u : List Prp), k ≤ P.length ∧ u.length = k ∧ i = .int .i64 k ∧ Below w1.heap.size w1 wr ∧ Hid (propsP (P.take k) = some u ∧ ∀ p ∈ u, p.ok) ∧ Hid (Own wr w1.heap.size 181 4 x4 k (u.flatMap Prp.enc))) (fun _ _ _ _ _ _ _ i _ => P.length - (intOf i).toNat)
  case atStart => exact ⟨0, [], Nat.zero_le _, rfl, rfl, Below.refl _ _, ⟨rfl, fun _ h => by cases h⟩, Own.nil _ _ _ _⟩
  case round =>
    obtain ⟨k, u, hk, hu, rfl, hbr, HP, HO⟩ := hrel
    obtain ⟨wo, hwo⟩ : ∃ wo : World, wo = wr := ⟨_, rfl⟩
    subst hwo
    obtain ⟨A4, c4, rfl, hc4, _⟩ := HO.out.form
    have HU := Lib.hid hu
    clear hu
    by_cases hlt : k < P.length
    · obtain ⟨x, hx⟩ : ∃ x, P[k]? = some x := ⟨_, List.getElem?_eq_getElem hlt⟩
      have hlt' : (k : Int) < (P.length : Int) := by omega
      obtain ⟨gb, o, rfl, hxs, q0⟩ := str_at (HSL.out.below hbr) (d := bs x) (by rw [List.getElem?_map, hx]; rfl)
      obtain ⟨t1, t2⟩ := propsP_take HP.out.1 hx
      unfold Sm at hxs
      have hxl : (bs x).data.toList = x := bs_list x
      have hxz := bs_size x
      obtain ⟨l1, l2⟩ := cut_lens 61 x
      have hx1 := tx_cut (bs x) 61 wo (HT1.out.below hbr).toTxP (by omega)
      rw [hxl] at hx1
      have HPI : Hid (pieceP x = if (Lib.cut x [61]).2.2 = true ∧ readE (Lib.cut x [61]).2.1 = 0 then some ⟨bs (Lib.cut x [61]).1, readV (Lib.cut x [61]).2.1⟩ else none) := rfl
      have hx2 := fun wx => vparse_any (bs (Lib.cut x [61]).2.1) (by unfold Sm; rw [bs_size]; omega) wx
      rw [bs_list] at hx2
      have hna : (bs (Lib.cut x [61]).1).size ≤ 1048576 := by rw [bs_size]; omega
      obtain ⟨na, hnaE⟩ : ∃ na, na = (Lib.cut x [61]).1 := ⟨_, rfl⟩
      obtain ⟨va, hvaE⟩ : ∃ va, va = (Lib.cut x [61]).2.1 := ⟨_, rfl⟩
      obtain ⟨iz, hizE⟩ : ∃ iz, iz = (Lib.cut x [61]).2.2 := ⟨_, rfl⟩
      rw [← hnaE, ← hvaE, ← hizE] at hx1 HPI
      rw [← hvaE] at hx2
      rw [← hnaE] at hna
      have T1 := Lib.hid t1
      have T2 := Lib.hid t2
      have HRO : Hid (readE va = 0 → (readV va).ok) := fun h => val_ok (show_read h).1
      generalize readE va = re at *
      generalize readV va = rv at *
      obtain ⟨rt, rn, rs⟩ := rv
      clear hx hxl hxz l1 l2 hnaE hvaE hizE t1 t2 hk hxs
      generalize bs na = nb at *
      generalize bs va = vb at *
      generalize bs x = xb at *
      go_wp2_with fail
      refine hx1.mono ?_
      clear hx1 q0
      rintro e w2 ⟨rfl, hb2⟩
      have hB2 := hbr.trans (hb2.mono hbr.size)
      have hx3 := hx2 w2 ((HT1.out.below hbr).below hb2)
      have HO2 := Lib.hid (HO.out.below hb2)
      clear hx2 HO hb2 hbr
      go_wp2_with fail
      refine hx3.mono ?_
      clear hx3
      rintro e w3 ⟨rfl, hb3⟩
      have hB3 := hB2.trans (hb3.mono hB2.size)
      have HO3 := Lib.hid (HO2.out.below hb3)
      have ha := (Below.refl w3.heap.size w3).alloc (Nat.le_refl _) (.cells #[.int .i64 rt, .int .i64 rn, .string rs] 70)
      have hB4 := hB3.trans (ha.mono hB3.size)
      have HO4 := Lib.hid (HO3.out.below ha)
      have hbk := heap_alloc_new w3 (.cells #[.int .i64 rt, .int .i64 rn, .string rs] 70)
      clear HO2 HO3 hB2 hB3 hb3
      by_cases hgood : iz = true ∧ re = 0
      case neg =>
        have HN : Hid (readRE s.data.toList = 2 ∧ readRV s.data.toList = []) := by
          have hp : propsP P = none := T1.out (by rw [HPI.out, if_neg hgood])
          unfold Hid
          rw [HRE.out, HRV.out, hp]; exact ⟨rfl, rfl⟩
        have hBF := hb1.trans (hB4.mono hb1.size)
        clear HPI T1 T2 HRE HRV HRO HO4 HP
        cases iz with
        | false =>
          go_wp2_with fail
          go_ret2
          exact ⟨none, 0, by rw [HN.out.1, HN.out.2]; rfl, by rw [HN.out.2]; exact OwnP.nil, hBF⟩
        | true =>
          have hre : re ≠ 0 := fun e => hgood ⟨rfl, e⟩
          rw [errV_some hre]
          clear hgood hre
          go_wp2_with fail
          go_ret2
          exact ⟨none, 0, by rw [HN.out.1, HN.out.2]; rfl, by rw [HN.out.2]; exact OwnP.nil, hBF⟩
      obtain ⟨hg1, hg2⟩ := hgood
      have HN := Lib.hid (T2.out ⟨nb, rt, rn, rs⟩ (by rw [HPI.out, if_pos ⟨hg1, hg2⟩]))
      have hok : (⟨nb, rt, rn, rs⟩ : Prp).ok := ⟨hna, HRO.out hg2⟩
      have HOKN : Hid (∀ p ∈ u ++ [(⟨nb, rt, rn, rs⟩ : Prp)], p.ok) := fun p hp => by
        rcases List.mem_append.1 hp with hp | hp
        · exact HP.out.2 p hp
        · rcases List.mem_singleton.1 hp with rfl; exact hok
      rw [errV_zero hg2]
      subst hg1
      clear hg2 HPI T1 T2 HRO hok
      go_upto_region 9 with fail
      generalize w3.alloc (.cells #[.int .i64 rt, .int .i64 rn, .string rs] 70) = w4 at *
      have z0 := block_cell hbk 0
      have z1 := block_cell hbk 1
      have z2 := block_cell hbk 2
      have hA4 := hB4.alloc hB4.size (.cells #[.string nb, .int .i64 rt, .int .i64 rn, .string rs] 181)
      have HOA : Hid (Own (w4.alloc (.cells #[.string nb, .int .i64 rt, .int .i64 rn, .string rs] 181)) w1.heap.size 181 4 (.slice A4 k c4) k (u.flatMap Prp.enc)) := HO4.out.alloc _
      have HNW : Hid (∀ j v, ([.string nb, .int .i64 rt, .int .i64 rn, .string rs] : List Value)[j]? = some v → (w4.alloc (.cells #[.string nb, .int .i64 rt, .int .i64 rn, .string rs] 181)).cell? ⟨w4.heap.size, j, none⟩ = some v) := fun j v hj => by
        rw [World.cell?_alloc_at _ _ _ _ rfl]; simpa using hj
      clear HO4 hbk hB4 ha
      go_wp2_with (at_builtin; refine wpList_append_q _ rfl (.tmp 40) (.tmp 44) _ rfl w1.heap.size 181 i0 (.agg #[.string .empty, .int .i64 0, .int .i64 0, .string .empty]) 4 48 Tryz.underlying96 ei ez ez1 ez2 rfl (by decide) (.slice A4 k c4) k (u.flatMap Prp.enc) rfl HOA.out (some ⟨w4.heap.size, 0, none⟩) 1 1 [.string nb, .int .i64 rt, .int .i64 rn, .string rs] rfl rfl (fun _ => ⟨_, rfl, fun j v hj => by rw [addr_add, Nat.zero_add]; exact HNW.out j v hj⟩) (fun v hv => by simp at hv; rcases hv with rfl | rfl | rfl | rfl <;> rfl) (by unfold maxLen; omega) (by omega) (by have := hA4.size; exact this) ?_; intro v9 w9 hown9 hg9 hat9)
      have hB9 : Below w1.heap.size w1 w9 := hA4.grown hg9 hA4.size (fun kk e => (HOA.out.lt kk e).1)
      have HO9 : Hid (Own w9 w1.heap.size 181 4 v9 (k + 1) ((u ++ [(⟨nb, rt, rn, rs⟩ : Prp)]).flatMap Prp.enc)) := by unfold Hid; rw [prp_snoc]; exact hown9
      clear hg9 hat9 hown9 HOA HNW hA4 z0 z1 z2
      go_wp2_with fail
      go_roundw
      case rel => exact ⟨k + 1, u ++ [(⟨nb, rt, rn, rs⟩ : Prp)], by omega, by simp [HU.out], by go_num, hB9, ⟨HN.out, HOKN.out⟩, HO9⟩
      case measure => simp [intOf]; omega
    · obtain rfl : k = P.length := by omega
      have hdn : decide (P.length < P.length) = false := by simp
      have hpp : propsP P = some u := by have := HP.out.1; rwa [List.take_length] at this
      have HE : Hid (readRE s.data.toList = recE u ∧ readRV s.data.toList = if recE u = 0 then u else []) := by
        unfold Hid; rw [HRE.out, HRV.out, hpp]; exact ⟨rfl, rfl⟩
      have HS : Hid (Sl prpL wo (.slice A4 u.length c4) u) := Own.prps (by have h := HO.out; rw [← HU.out] at h; exact h) HP.out.2
      have HOW : Hid (Own wo w1.heap.size 181 4 (.slice A4 u.length c4) u.length (u.flatMap Prp.enc)) := by have h := HO.out; rw [← HU.out] at h; exact h
      have HPO : Hid (∀ p ∈ u, p.ok) := HP.out.2
      have hx := recCheck_any u (.slice A4 u.length c4) wo HS.out
      rw [HU.out] at hx
      have hBo := hb1.trans (hbr.mono hb1.size)
      generalize recE u = ee at *
      clear hpp HRE HRV HP HO hk hlt
      go_wp2_with fail
      refine hx.mono ?_
      clear hx
      rintro e w8 ⟨rfl, hb8⟩
      have hB8 := hBo.trans (hb8.mono hBo.size)
      by_cases hz : ee = 0
      · have HF : Hid (readRE s.data.toList = 0 ∧ readRV s.data.toList = u) := by
          unfold Hid; rw [HE.out.1, HE.out.2, if_pos hz]; exact ⟨hz, rfl⟩
        rw [errV_zero hz]
        clear hz HE
        go_wp2_with fail
        go_ret2
        refine ⟨A4, c4, ?_, ?_, hB8⟩
        · rw [HF.out.1, HF.out.2, HU.out]; rfl
        · rw [HF.out.2]
          exact ⟨(HOW.out.below hb8).mono hb1.size, HPO.out⟩
      · have HF : Hid (errV (readRE s.data.toList) = .iface 115 (.int .i64 ee) ∧ readRV s.data.toList = []) := by
          unfold Hid; rw [HE.out.1, HE.out.2, if_neg hz]; exact ⟨errV_some hz, rfl⟩
        rw [errV_some hz]
        clear hz HE
        go_wp2_with fail
        go_ret2
        exact ⟨none, 0, by rw [HF.out.1, HF.out.2]; rfl, by rw [HF.out.2]; exact OwnP.nil, hB8⟩

set_option maxHeartbeats 2000000 in
theorem num_any (s : ByteArray) (hs : Sm s) (d : Nat) (hd : d ≤ 9) (w : World) (hT : TxOk w) :
    Calls Tryz.prog 109 #[.string s, .int .i64 d] w fun e w' => ∃ n : Int, e = .returned (.tuple #[.int .i64 n, .bool (numL s.data.toList d).isSome]) ∧ (∀ u, numL s.data.toList d = some u → n = (u : Int)) ∧ Below w.heap.size w w' := by
  have hle : s.data.toList.length = s.size := by rw [Array.length_toList]; rfl
  unfold Sm at hs
  have hx := tx_atoi s w hT (by omega)
  have HT := Lib.hid hT
  clear hT
  go_enter Tryz.func109, Tryz.ntmps109
  go_wp2_with fail
  refine hx.mono ?_
  clear hx
  intro e w1 hat
  obtain ⟨hb1, hat⟩ := hat
  have HT1 := Lib.hid (HT.out.below hb1)
  rcases hat with ⟨v, hv, rfl⟩ | ⟨hv, n, tp, p, rfl⟩
  case inr =>
    have HN := Lib.hid (num_of_bad hd hv)
    clear hv
    go_wp2_with fail
    go_ret2
    exact ⟨n, by rw [HN.out]; rfl, (fun u hu => by rw [HN.out] at hu; cases hu), hb1⟩
  have hi := num_of_atoi hd hv
  have hvr := atoi_range hv
  unfold I64 at hvr
  have HI := Lib.hid hi
  clear hi hv
  have bad : ¬ (0 ≤ v ∧ s.data.toList.length ≤ d ∧ Lib.itoa v = s.data.toList) → Hid (numL s.data.toList d = none) := fun h => by
    unfold Hid; rw [HI.out, if_neg h]
  by_cases h0 : 0 ≤ v
  case neg =>
    have HN := bad fun e => h0 e.1
    have h0b : decide (0 ≤ v) = false := decide_eq_false h0
    clear bad h0 HI
    go_wp2_with fail
    go_ret2
    exact ⟨v, by rw [HN.out]; rfl, (fun u hu => by rw [HN.out] at hu; cases hu), hb1⟩
  by_cases hld : s.size ≤ d
  case neg =>
    have HN := bad fun e => hld (by rw [← hle]; exact e.2.1)
    have hlb : decide (s.size ≤ d) = false := decide_eq_false hld
    clear bad HI hld hle
    go_wp2_with fail
    go_ret2
    exact ⟨v, by rw [HN.out]; rfl, (fun u hu => by rw [HN.out] at hu; cases hu), hb1⟩
  have hlb : decide (s.size ≤ d) = true := decide_eq_true hld
  have hx := tx_itoa v hvr.1 hvr.2 w1 HT1.out.tab
  have hcut : ((⟨(Lib.itoa v).toArray⟩ : ByteArray).toList = s.toList) = (Lib.itoa v = s.data.toList) := by
    rw [bytes_eq]
    refine propext ⟨fun e => ?_, fun e => ?_⟩
    · rw [← e]
    · have := congrArg bs e
      rw [bs_of] at this; exact this
  obtain ⟨V, hV⟩ : ∃ V : ByteArray, V = ⟨(Lib.itoa v).toArray⟩ := ⟨_, rfl⟩
  rw [← hV] at hcut hx
  have HC := Lib.hid hcut
  have HLE := Lib.hid hle
  clear hV hcut hle
  go_wp2_with fail
  refine hx.mono ?_
  clear hx
  rintro e w2 ⟨rfl, hb2⟩
  have hB2 := hb1.trans (hb2.mono hb1.size)
  by_cases hc : Lib.itoa v = s.data.toList
  · have HN : Hid (numL s.data.toList d = some v.toNat) := by unfold Hid; rw [HI.out, if_pos ⟨h0, by rw [HLE.out]; exact hld, hc⟩]
    have hS : (V.toList == s.toList) = true := by rw [beq_iff_eq, HC.out]; exact hc
    clear bad HI hc HC
    go_wp2_with fail
    go_ret2
    exact ⟨v, by rw [HN.out]; rfl, (fun u hu => by rw [HN.out] at hu; injection hu with hu; omega), hB2⟩
  · have HN := bad fun e => hc e.2.2
    have hS : (V.toList == s.toList) = false := by
      rw [beq_eq_false_iff_ne]
      intro e
      rw [HC.out] at e
      exact hc e
    clear bad HI hc HC
    go_wp2_with fail
    go_ret2
    exact ⟨v, by rw [HN.out]; rfl, (fun u hu => by rw [HN.out] at hu; cases hu), hB2⟩


theorem three_parts {P : List (List UInt8)} (h1 : ¬ P.length < 3) (h2 : P.length ≤ 3) : ∃ a b c, P = [a, b, c] := by
  match P, h1, h2 with
  | [a, b, c], _, _ => exact ⟨a, b, c, rfl⟩
  | [], h1, _ => simp at h1
  | [_], h1, _ => simp at h1
  | [_, _], h1, _ => simp at h1
  | _ :: _ :: _ :: _ :: _, _, h2 => simp at h2
/-- What readNode answers. -/
def NodR (l : List UInt8) (w : World) (e : Ending) (w' : World) : Prop := ∃ (id : Int) (kd : ByteArray) (A : Option Addr) (n k : Nat),
  e = .returned (.tuple #[.agg #[.int .i64 id, .string kd, .slice A n k], .bool (readNodL l).isSome]) ∧ (∀ nd, readNodL l = some nd → id = nd.id ∧ kd = nd.kind ∧ n = nd.props.length ∧ OwnP w' w.heap.size (.slice A n k) nd.props ∧ I64 nd.id ∧ Sm nd.kind) ∧ Below w.heap.size w w'
theorem NodR.bad {l : List UInt8} {w w' : World} {e : Ending} {id : Int} {kd : ByteArray} {A : Option Addr} {n k : Nat} (h : readNodL l = none) (he : e = .returned (.tuple #[.agg #[.int .i64 id, .string kd, .slice A n k], .bool false])) (hb : Below w.heap.size w w') : NodR l w e w' :=
  ⟨id, kd, A, n, k, by rw [h]; exact he, (fun nd hn => by rw [h] at hn; cases hn), hb⟩
theorem res3d {w w1 : World} {T : TypeId} {c0 c1 c2 : Value} (a b c : Value) (hB : Below w.heap.size w w1) (h : w1.heap[w.heap.size]? = some (.cells #[c0, c1, c2] T (0, 0))) :
    Below w.heap.size w (((w1.setCell ⟨w.heap.size, 0, none⟩ a).setCell ⟨w.heap.size, 1, none⟩ b).setCell ⟨w.heap.size, 2, none⟩ c).drew ∧
    (((w1.setCell ⟨w.heap.size, 0, none⟩ a).setCell ⟨w.heap.size, 1, none⟩ b).setCell ⟨w.heap.size, 2, none⟩ c).drew.cell? ⟨w.heap.size, 0, none⟩ = some a ∧
    (((w1.setCell ⟨w.heap.size, 0, none⟩ a).setCell ⟨w.heap.size, 1, none⟩ b).setCell ⟨w.heap.size, 2, none⟩ c).drew.cell? ⟨w.heap.size, 1, none⟩ = some b ∧
    (((w1.setCell ⟨w.heap.size, 0, none⟩ a).setCell ⟨w.heap.size, 1, none⟩ b).setCell ⟨w.heap.size, 2, none⟩ c).drew.cell? ⟨w.heap.size, 2, none⟩ = some c := by
  obtain ⟨k1, k2, k3, k4⟩ := res3 a b c hB h
  exact ⟨k1.drew, k2, k3, k4⟩
set_option maxHeartbeats 4000000 in
theorem rnodT_any (s : ByteArray) (hs : Sm s) (w : World) (hT : TxOk w) : Calls Tryz.prog 59 #[.string s] w (NodR s.data.toList w) := by
  have hb0 : Below w.heap.size w (w.alloc (.cells #[.int .i64 0, .string ⟨#[]⟩, .slice none 0 0] 98)) := (Below.refl _ _).alloc (Nat.le_refl _) _
  have hbk := heap_alloc_new w (.cells #[.int .i64 0, .string ⟨#[]⟩, .slice none 0 0] 98)
  have HT := Lib.hid (hT.below hb0)
  have hle := len_size s
  have hx := tx_splitN s 32 _ HT.out.toTxP hs
  have hl3 := split3_len 32 s.data.toList
  have hpl := splitN_len 32 s.data.toList
  have HD : Hid (readNodL s.data.toList = match Lib.splitN s.data.toList [32] 3 with
    | [a, b, c] => if b = [] then none else match numL a 4 with
      | none => none
      | some n => if readRE c = 0 then some ⟨n, bs b, readRV c⟩ else none
    | _ => none) := rfl
  unfold Sm at hs
  generalize Lib.splitN s.data.toList [32] 3 = P at *
  have HPL : Hid (∀ x ∈ P, x.length ≤ 1048576) := fun x hx => by have := hpl x hx; omega
  clear hT hpl hle
  go_enter Tryz.func59, Tryz.ntmps59
  go_upto_region 1 with fail
  generalize w.alloc (.cells #[.int .i64 0, .string ⟨#[]⟩, .slice none 0 0] 98) = W0 at *
  go_wp2_with fail
  refine hx.mono ?_
  clear hx
  rintro e w1 ⟨k1, rfl, hsl, hb1⟩
  have hB1 := hb0.trans (hb1.mono hb0.size)
  have hbk1 := (hb1.block _ (Array.getElem?_eq_some_iff.1 hbk).1).trans hbk
  have HT1 := Lib.hid (HT.out.below hb1)
  have hne0 : w.heap.size ≠ W0.heap.size := by have := (Array.getElem?_eq_some_iff.1 hbk).1; omega
  clear hb0 hb1 hbk HT
  by_cases h3 : P.length < 3
  · have HN : Hid (readNodL s.data.toList = none) := by
      unfold Hid; rw [HD.out]
      split
      · rename_i a b c
        simp at h3
      · rfl
    obtain ⟨k1, k2, k3, k4⟩ := res3 (.int .i64 0) (.string ⟨#[]⟩) (.slice none 0 0) hB1 hbk1
    have y0 := block_cell hbk1 0
    have y1 := block_cell hbk1 1
    have y2 := block_cell hbk1 2
    have g0 := block_free hbk1 0
    have g1 := block_free hbk1 1
    have g2 := block_free hbk1 2
    have h3' : (P.length : Int) < 3 := by omega
    clear hsl HD
    go_wp2_with fail
    exact bodyPost_ret (v := .tuple #[.agg #[.int .i64 0, .string ⟨#[]⟩, .slice none 0 0], .bool false]) (by simp [results, Tryz.results59, go_sem, k2, k3, k4]) rfl (NodR.bad HN.out rfl k1)
  obtain ⟨a, b, c, rfl⟩ := three_parts h3 hl3
  clear h3 hl3
  have ha := HPL.out a (by simp)
  have hb := HPL.out b (by simp)
  have hc := HPL.out c (by simp)
  obtain ⟨gb, o, hA, _, q0⟩ := str_at (k := 0) hsl (d := bs a) rfl
  injection hA with hA
  injection hA with e1 e2
  subst e1
  subst e2
  obtain ⟨gb2, o2, hA, _, q1⟩ := str_at (k := 1) hsl (d := bs b) rfl
  injection hA with hA
  injection hA with e1 e2
  subst e1
  subst e2
  obtain ⟨gb3, o3, hA, _, q2⟩ := str_at (k := 2) hsl (d := bs c) rfl
  injection hA with hA
  injection hA with e1 e2
  subst e1
  subst e2
  rw [Nat.add_zero] at q0
  rw [Nat.zero_add] at q1 q2
  have HD2 : Hid (readNodL s.data.toList = if b = [] then none else match numL a 4 with
      | none => none
      | some n => if readRE c = 0 then some ⟨n, bs b, readRV c⟩ else none) := HD.out
  have hbt : ((bs b).toList = []) = (b = []) := by
    refine propext ⟨fun h => ?_, fun h => ?_⟩
    · have h2 : bs b = .empty := by rw [← bytes_eq, h, empty_list]
      have := congrArg (·.data.toList) h2
      simpa [bs] using this
    · subst h; exact empty_list
  have HBT := Lib.hid hbt
  rw [show ([a, b, c] : List (List UInt8)).length = 3 from rfl]
  obtain ⟨k1, k2, k3, k4⟩ := res3 (.int .i64 0) (.string ⟨#[]⟩) (.slice none 0 0) hB1 hbk1
  by_cases hb0 : b = []
  · have HN : Hid (readNodL s.data.toList = none) := by unfold Hid; rw [HD2.out, if_pos hb0]
    have y0 := block_cell hbk1 0
    have y1 := block_cell hbk1 1
    have y2 := block_cell hbk1 2
    have g0 := block_free hbk1 0
    have g1 := block_free hbk1 1
    have g2 := block_free hbk1 2
    have hbe : (bs b).toList = [] := by rw [hbt]; exact hb0
    clear hsl HD HD2 HPL hbt HBT hb0
    go_wp2_with fail
    exact bodyPost_ret (v := .tuple #[.agg #[.int .i64 0, .string ⟨#[]⟩, .slice none 0 0], .bool false]) (by simp [results, Tryz.results59, go_sem, k2, k3, k4]) rfl (NodR.bad HN.out rfl k1)
  have hbn : ¬ (bs b).toList = [] := by rw [hbt]; exact hb0
  have hbe : (bs b).toList.isEmpty = false := List.isEmpty_eq_false_iff.2 hbn
  have HD3 : Hid (readNodL s.data.toList = match numL a 4 with
      | none => none
      | some n => if readRE c = 0 then some ⟨n, bs b, readRV c⟩ else none) := by unfold Hid; rw [HD2.out, if_neg hb0]
  have hx := num_any (bs a) (by unfold Sm; rw [bs_size]; exact ha) 4 (by omega) w1 HT1.out
  rw [bs_list] at hx
  have hbs : (bs b).size ≤ 1048576 := by rw [bs_size]; exact hb
  have hX2 := Lib.hid (fun wx hw => rparse_own (bs c) (by unfold Sm; rw [bs_size]; exact hc) wx hw)
  have HI64 : Hid (∀ u, numL a 4 = some u → I64 (u : Int)) := fun u hu => by
    have h1 := (numL_iff.1 hu).1
    have h2 := atoi_back (u : Int) (by rw [itoa_nat, digits_trim, ← h1]; have := (numL_iff.1 hu).2; omega)
    exact atoi_range h2
  generalize numL a 4 = na at *
  generalize hRE : readRE c = re at *
  have HRE := Lib.hid hRE
  clear hsl HD HD2 HPL hbt HBT hb0 k1 k2 k3 k4 hRE
  go_wp2_with fail
  refine hx.mono ?_
  clear hx
  rintro e w2 ⟨n1, rfl, hn1, hb2⟩
  have hB2 := hB1.trans (hb2.mono hB1.size)
  have hbk2 := (hb2.block _ (Array.getElem?_eq_some_iff.1 hbk1).1).trans hbk1
  have q1 := cell_below hb2 q1
  have q2 := cell_below hb2 q2
  have hx := hX2.out w2 (HT1.out.below hb2)
  rw [bs_list, HRE.out] at hx
  have HN1 : Hid (∀ u, na = some u → n1 = (u : Int)) := hn1
  clear hbk1 q0 hB1 hb2 HT1 hX2 hn1
  go_wp2_with fail
  refine hx.mono ?_
  clear hx
  rintro e w3 ⟨AR, kR, rfl, hsR, hb3⟩
  have hB3 := hB2.trans (hb3.mono hB2.size)
  have hbk3 := (hb3.block _ (Array.getElem?_eq_some_iff.1 hbk2).1).trans hbk2
  have q1 := cell_below hb3 q1
  have y0 := block_cell hbk3 0
  have y1 := block_cell hbk3 1
  have y2 := block_cell hbk3 2
  have g0 := block_free hbk3 0
  have g1 := block_free hbk3 1
  have g2 := block_free hbk3 2
  have HSR := Lib.hid hsR
  generalize hRL : (readRV c).length = rl at *
  have HRL := Lib.hid hRL
  clear hB2 hb3 hsR hRL
  cases na with
  | none =>
    have HN : Hid (readNodL s.data.toList = none) := HD3.out
    rw [show (none : Option Nat).isSome = false from rfl]
    clear HD3 HI64 HN1
    go_upto_region 6 with fail
    go_region
    obtain ⟨k1, k2, k3, k4⟩ := res3d (.int .i64 n1) (.string (bs b)) (.slice AR rl kR) hB3 hbk3
    clear y0 y1 y2 g0 g1 g2 q1
    go_wp2_with fail
    exact bodyPost_ret (v := .tuple #[.agg #[.int .i64 n1, .string (bs b), .slice AR rl kR], .bool false]) (by simp [results, Tryz.results59, go_sem, k2, k3, k4]) rfl (NodR.bad HN.out rfl k1)
  | some u =>
    have hnu := HN1.out u rfl
    have hi64 := HI64.out u rfl
    rw [show (some u : Option Nat).isSome = true from rfl]
    have hD4 : readNodL s.data.toList = if re = 0 then some ⟨(u : Int), bs b, readRV c⟩ else none := HD3.out
    have HD4 := Lib.hid hD4
    clear HD3 HI64 HN1 hD4
    by_cases hz : re = 0
    · have HN : Hid (readNodL s.data.toList = some ⟨(u : Int), bs b, readRV c⟩) := by unfold Hid; rw [HD4.out, if_pos hz]
      rw [errV_zero hz]
      have HNU := Lib.hid hnu
      clear HD4 hz hnu
      go_upto_region 6 with fail
      go_region
      obtain ⟨k1, k2, k3, k4⟩ := res3d (.int .i64 n1) (.string (bs b)) (.slice AR rl kR) hB3 hbk3
      have hne := fun q hq => (HSR.out.1.lt q hq).1
      have hl0 : w.heap.size < w2.heap.size := (Array.getElem?_eq_some_iff.1 hbk2).1
      have hS : OwnP (((w3.setCell ⟨w.heap.size, 0, none⟩ (.int .i64 n1)).setCell ⟨w.heap.size, 1, none⟩ (.string (bs b))).setCell ⟨w.heap.size, 2, none⟩ (.slice AR rl kR)).drew w.heap.size (.slice AR rl kR) (readRV c) := by
        have hn : (Value.slice AR rl kR).ownBlock ≠ some w.heap.size := fun e => by have := hne _ e; omega
        have h0 : OwnP w3 w2.heap.size (.slice AR rl kR) (readRV c) := HSR.out
        refine ⟨?_, h0.2⟩
        have h1 := ((h0.1.setCell ⟨w.heap.size, 0, none⟩ (.int .i64 n1) hn).setCell ⟨w.heap.size, 1, none⟩ (.string (bs b)) hn).setCell ⟨w.heap.size, 2, none⟩ (.slice AR rl kR) hn
        exact (h1.drewN 1).mono (Nat.le_of_lt hl0)
      clear y0 y1 y2 g0 g1 g2 q1
      go_wp2_with fail
      exact bodyPost_ret (v := .tuple #[.agg #[.int .i64 n1, .string (bs b), .slice AR rl kR], .bool true]) (by simp [results, Tryz.results59, go_sem, k2, k3, k4]) rfl ⟨n1, bs b, AR, rl, kR, by rw [HN.out]; rfl, (fun nd hn => by
        rw [HN.out] at hn
        injection hn with hn
        subst hn
        exact ⟨HNU.out, rfl, HRL.out.symm, hS, hi64, hbs⟩), k1⟩
    · have HN : Hid (readNodL s.data.toList = none) := by unfold Hid; rw [HD4.out, if_neg hz]
      rw [errV_some hz]
      clear HD4 hz hnu
      go_upto_region 6 with fail
      go_region
      obtain ⟨k1, k2, k3, k4⟩ := res3d (.int .i64 n1) (.string (bs b)) (.slice AR rl kR) hB3 hbk3
      clear y0 y1 y2 g0 g1 g2 q1
      go_wp2_with fail
      exact bodyPost_ret (v := .tuple #[.agg #[.int .i64 n1, .string (bs b), .slice AR rl kR], .bool false]) (by simp [results, Tryz.results59, go_sem, k2, k3, k4]) rfl (NodR.bad HN.out rfl k1)
end Go.Proofs.YtflidfmpmakggaaGreatDoor
