/- Parts: RpA, RecT. -/
import Derived.Test.YtmbeeaohidgfgaaGreatDoorMg08
import Derived.Test.YtmbeeaohidgfgaaGreatDoorMg13
import Derived.Test.YtmbeeaohidgfgaaGreatDoorMg11
import Derived.Test.YtmbeeaohidgfgaaGreatDoorMg09
import Derived.Test.YtmbeeaohidgfgaaGreatDoorMg05
/- Contract: record.Print: a record as text. Conditions: what the library's texts lean on (TxP). -/
namespace Go.Proofs.YtmbeeaohidgfgaaGreatDoor
open Go Go.RowKit

theorem prp_text (nm : ByteArray) (l : List UInt8) : nm ++ ⟨#[61]⟩ ++ bs l = bs (nm.data.toList ++ 61 :: l) := by
  show nm ++ bs [61] ++ bs l = _
  conv => lhs; rw [← bs_of nm]
  rw [bs_append, bs_append]; simp
set_option maxHeartbeats 4000000 in
theorem rprint_any (r : List Prp) (v : Value) (w : World) (hv : Sl prpL w v r) (hT : TxP w) :
    Calls Tryz.prog 7 #[v] w fun e w' => e = .returned (.tuple #[.string (bs (if recE r = 0 then recT r else [])), errV (recE r)]) ∧ Below w.heap.size w w' := by
  obtain ⟨i0, ei, ez, ez1, ez2⟩ := info_parts str_info
  have hx := recCheck_any r v w hv
  have HV := Lib.hid hv
  have HT := Lib.hid hT
  obtain ⟨A, c, rfl, _, _⟩ := hv.form
  obtain ⟨R, hR⟩ : ∃ R, R = (if recE r = 0 then recT r else []) := ⟨_, rfl⟩
  rw [← hR]
  have HR := Lib.hid hR
  have HOK : Hid (recE r = 0 → r.length ≤ 8 ∧ (∀ p ∈ r, prpE p = 0)) := fun h => ⟨(rec_ok h).1, (rec_ok h).2.1⟩
  have HRL : Hid (recE r = 0 → (recT r).length ≤ 417) := rec_len
  generalize recE r = ee at *
  clear hT hR hv
  go_enter Tryz.func7, Tryz.ntmps7
  go_wp2_with fail
  refine hx.mono ?_
  clear hx
  rintro e w1 ⟨rfl, hb1⟩
  by_cases hz : ee = 0
  case neg =>
    have HE : Hid (R = []) := by unfold Hid; rw [HR.out, if_neg hz]
    rw [errV_some hz]
    clear HR HOK HRL
    go_wp2_with fail
    go_ret2
    exact ⟨by rw [HE.out, errV_some hz]; rfl, hb1⟩
  rw [errV_zero hz]
  have HE : Hid (R = recT r) := by unfold Hid; rw [HR.out, if_pos hz]
  obtain ⟨hl8, hok⟩ := HOK.out hz
  have HP : Hid (∀ p ∈ r, prpE p = 0) := hok
  have hrl := HRL.out hz
  have HL := Lib.hid hrl
  have HZ := Lib.hid hz
  have HV1 := Lib.hid (HV.out.below hb1)
  have HT1 := Lib.hid (HT.out.below hb1)
  clear hz HR HOK HRL hok hrl HV HT
  go_wp2_with fail
  go_loopw [5, 7, 8, 9, 17] (fun x5 _ _ _ i wr => ∃ k : Nat, k ≤ r.length ∧ i = .int .i64 k ∧ Below w1.heap.size w1 wr ∧ Hid (Own wr w1.heap.size 9 1 x5 k (wv ((r.take k).map prpT)))) (fun _ _ _ _ i _ => r.length - (intOf i).toNat)
  case atStart => exact ⟨0, Nat.zero_le _, rfl, Below.refl _ _, Own.nil _ _ _ _⟩
  case round =>
    obtain ⟨k, hk, rfl, hbr, HO⟩ := hrel
    obtain ⟨wo, hwo⟩ : ∃ wo : World, wo = wr := ⟨_, rfl⟩
    subst hwo
    obtain ⟨A5, c5, rfl, hc5, _⟩ := HO.out.form
    by_cases hlt : k < r.length
    · obtain ⟨d, hd⟩ : ∃ d, r[k]? = some d := ⟨_, List.getElem?_eq_getElem hlt⟩
      have hlt' : (k : Int) < (r.length : Int) := by omega
      obtain ⟨gb, o, rfl, hdok, q0, q1, q2, q3⟩ := prp_at (HV1.out.below hbr) hd
      have hpe := HP.out d (List.mem_of_getElem? hd)
      obtain ⟨_, hve⟩ := prp_parts hpe
      have hn8 : d.name.size ≤ 8 := by have := name_len (prp_parts hpe).1; rw [Array.length_toList] at this; exact this
      have HSN : Hid (wv ((r.take (k + 1)).map prpT) = wv ((r.take k).map prpT) ++ [.string (bs (prpT d))]) := by
        unfold Hid wv
        rw [List.take_add_one, hd]; simp
      obtain ⟨nm, ⟨dt, dn, ds⟩⟩ := d
      have ha := (Below.refl wo.heap.size wo).alloc (Nat.le_refl _) (.cells #[.string nm, .int .i64 dt, .int .i64 dn, .string ds] 27)
      have hbk := heap_alloc_new wo (.cells #[.string nm, .int .i64 dt, .int .i64 dn, .string ds] 27)
      have hx := vprint_any ⟨dt, dn, ds⟩ hdok.2 _ ((HT1.out.below hbr).below ha)
      rw [hve, if_pos rfl, errV_zero rfl] at hx
      have hsl := show_len hve
      have hTX : Hid (nm ++ ⟨#[61]⟩ ++ bs (showL ⟨dt, dn, ds⟩) = bs (prpT ⟨nm, dt, dn, ds⟩)) := prp_text _ _
      have hss : (bs (showL ⟨dt, dn, ds⟩)).size ≤ 42 := by rw [bs_size]; exact hsl
      generalize bs (showL ⟨dt, dn, ds⟩) = sh at *
      clear hd hpe hve hdok hsl hk
      go_upto_region 8 with fail
      generalize wo.alloc (.cells #[.string nm, .int .i64 dt, .int .i64 dn, .string ds] 27) = w3 at *
      clear q0 q1 q2 q3
      have z0 := block_cell hbk 0
      have z1 := block_cell hbk 1
      have z2 := block_cell hbk 2
      have z3 := block_cell hbk 3
      go_wp2_with fail
      refine hx.mono ?_
      clear hx
      rintro e w4 ⟨rfl, hb4⟩
      have hb14 := ha.trans (hb4.mono ha.size)
      have z0 := cell_below hb4 z0
      have HO4 := Lib.hid (HO.out.below hb14)
      have hB4 := hbr.trans (hb14.mono hbr.size)
      have hs4 := hB4.size
      have hc1 : ¬ 9223372036854775807 < nm.size + 1 := by omega
      have hc2 : ¬ 9223372036854775807 < nm.size + 1 + sh.size := by omega
      have HOA : Hid (Own (w4.alloc (.cells #[.string (nm ++ ⟨#[61]⟩ ++ sh)] 9)) w1.heap.size 9 1 (.slice A5 k c5) k (wv ((r.take k).map prpT))) := HO4.out.alloc _
      have HN : Hid (∀ j u, ([.string (nm ++ ⟨#[61]⟩ ++ sh)] : List Value)[j]? = some u → (w4.alloc (.cells #[.string (nm ++ ⟨#[61]⟩ ++ sh)] 9)).cell? ⟨w4.heap.size, j, none⟩ = some u) := fun j u hj => by
        rw [World.cell?_alloc_at _ _ _ _ rfl]; simpa using hj
      have hA4 := hB4.alloc hs4 (.cells #[.string (nm ++ ⟨#[61]⟩ ++ sh)] 9)
      clear HO HO4 hb4 hb14 ha z1 z2 z3 hbk hB4
      go_wp2_with (at_builtin; refine wpList_append_q _ rfl (.tmp 30) (.tmp 36) _ rfl w1.heap.size 9 i0 (.string .empty) 1 16 Tryz.underlying50 ei ez ez1 ez2 rfl (by decide) (.slice A5 k c5) k (wv ((r.take k).map prpT)) rfl HOA.out (some ⟨w4.heap.size, 0, none⟩) 1 1 [.string (nm ++ ⟨#[61]⟩ ++ sh)] rfl rfl (fun _ => ⟨_, rfl, fun j u hj => by rw [addr_add, Nat.zero_add]; exact HN.out j u hj⟩) (fun u hu => by simp at hu; subst hu; rfl) (by unfold maxLen; omega) (by omega) (by have := hA4.size; exact this) ?_; intro v9 w9 hown9 hg9 hat9)
      have hB9 : Below w1.heap.size w1 w9 := hA4.grown hg9 hA4.size (fun kk e => (HOA.out.lt kk e).1)
      have HO9 : Hid (Own w9 w1.heap.size 9 1 v9 (k + 1) (wv ((r.take (k + 1)).map prpT))) := by unfold Hid; rw [HSN.out, ← hTX.out]; exact hown9
      clear hg9 hat9 hown9 HOA HN hA4 z0
      go_wp2_with fail
      go_roundw
      case rel => exact ⟨k + 1, by omega, by go_num, hB9, HO9⟩
      case measure => simp [intOf]; omega
    · obtain rfl : k = r.length := by omega
      have HO2 : Hid (Own wo w1.heap.size 9 1 (.slice A5 r.length c5) (r.map prpT).length (wv (r.map prpT))) := by
        have := HO.out
        rw [List.take_length] at this
        unfold Hid; rw [List.length_map]; exact this
      have hB := hb1.trans (hbr.mono hb1.size)
      have hdn : decide (r.length < r.length) = false := by simp
      by_cases h0 : r.length = 0
      · have HE0 : Hid (R = [45]) := by unfold Hid; rw [HE.out]; unfold recT; rw [if_pos h0]
        have h0b : ((r.length : Int) == 0) = true := by rw [h0]; rfl
        clear h0 HE HO HO2 hlt hk
        go_wp2_with fail
        go_ret2
        exact ⟨by rw [HE0.out, errV_zero HZ.out]; rfl, hB⟩
      · have HE0 : Hid (R = Lib.join (r.map prpT) [44]) := by unfold Hid; rw [HE.out]; unfold recT; rw [if_neg h0]
        have h0b : ((r.length : Int) == 0) = false := by rw [beq_eq_false_iff_ne]; omega
        have hlm : (r.map prpT).length = r.length := List.length_map _
        obtain ⟨g9, o9, c9, hv9, _, _⟩ := HO2.out.addr (by omega)
        injection hv9 with e1 e2 e3
        subst e1
        subst e3
        have hx := join_own w1.heap.size wo g9 o9 c5 (r.map prpT) [44] (by have h9 := HO2.out; rw [hlm] at h9 ⊢; exact h9) (by omega) (by omega) (by rw [← HE0.out, HE.out]; have := HL.out; omega)
        rw [hlm, ← HE0.out] at hx
        clear h0 HE HO HO2 hlt hk e2
        go_wp2_with fail
        refine hx.mono ?_
        clear hx
        rintro e w8 ⟨rfl, hb8⟩
        go_wp2_with fail
        go_ret2
        exact ⟨by rw [errV_zero HZ.out]; rfl, hB.trans (hb8.mono hB.size)⟩

theorem flat_set4 (p : Prp) : ∀ (r : List Prp) (i : Nat), i < r.length → ((((r.flatMap Prp.enc).set (i * 4) (.string p.name)).set (i * 4 + 1) (.int .i64 p.v.ty)).set (i * 4 + 2) (.int .i64 p.v.n)).set (i * 4 + 3) (.string p.v.s) = (r.set i p).flatMap Prp.enc
  | [], i, h => by simp at h
  | a :: r, 0, _ => by simp [Prp.enc]
  | a :: r, i + 1, h => by
    have ih := flat_set4 p r i (by simpa using h)
    have e : (i + 1) * 4 = i * 4 + 4 := by omega
    rw [List.set_cons_succ, List.flatMap_cons, List.flatMap_cons, ← ih, e]
    rfl
def setE (r : List Prp) (p : Prp) : Int := if recE r = 0 then (if prpE p = 0 then (if rhas r p.name then 0 else if 8 ≤ r.length then 4 else 0) else prpE p) else recE r
def putP (r : List Prp) (p : Prp) : List Prp := if rhas r p.name then r.set (rpos r p.name) p else r.take (rpos r p.name) ++ p :: r.drop (rpos r p.name)
def setR (r : List Prp) (p : Prp) : List Prp := if setE r p = 0 then putP r p else []
/-- A record and an error. -/
def RetR (l : List Prp) (err : Int) (w : World) (e : Ending) (w' : World) : Prop := ∃ v, e = .returned (.tuple #[v, errV err]) ∧ Sl prpL w' v l ∧ Below w.heap.size w w'
/-- A record that is the call's own. -/
def OwnP (w : World) (B : Nat) (v : Value) (l : List Prp) : Prop := Own w B 27 4 v l.length (l.flatMap Prp.enc) ∧ ∀ x ∈ l, x.ok
theorem OwnP.nil {w : World} {B : Nat} : OwnP w B (.slice none 0 0) [] := ⟨Own.nil _ _ _ _, fun x hx => by cases hx⟩
/-- The same, the record the call's own. -/
def RetO (l : List Prp) (err : Int) (w : World) (e : Ending) (w' : World) : Prop := ∃ v, e = .returned (.tuple #[v, errV err]) ∧ OwnP w' w.heap.size v l ∧ Below w.heap.size w w'
theorem RetO.r {l : List Prp} {err : Int} {w w' : World} {e : Ending} (h : RetO l err w e w') : RetR l err w e w' := by
  obtain ⟨v, h1, h2, h3⟩ := h
  exact ⟨v, h1, h2.1.prps h2.2, h3⟩
theorem cell_box4' (w : World) (a b c d : Value) (t : TypeId) : (w.alloc (.cells #[a, b, c, d] t)).cell? ⟨w.heap.size, 0, none⟩ = some a ∧ (w.alloc (.cells #[a, b, c, d] t)).cell? ⟨w.heap.size, 1, none⟩ = some b ∧
    (w.alloc (.cells #[a, b, c, d] t)).cell? ⟨w.heap.size, 2, none⟩ = some c ∧ (w.alloc (.cells #[a, b, c, d] t)).cell? ⟨w.heap.size, 3, none⟩ = some d :=
  ⟨by rw [World.cell?_alloc_at _ _ _ _ rfl]; rfl, by rw [World.cell?_alloc_at _ _ _ _ rfl]; rfl, by rw [World.cell?_alloc_at _ _ _ _ rfl]; rfl, by rw [World.cell?_alloc_at _ _ _ _ rfl]; rfl⟩
set_option maxRecDepth 100000 in
set_option maxHeartbeats 4000000 in
theorem set_own (r : List Prp) (p : Prp) (v : Value) (w : World) (hv : Sl prpL w v r) (hp : p.ok) :
    Calls Tryz.prog 6 #[v, .agg #[.string p.name, .int .i64 p.v.ty, .int .i64 p.v.n, .string p.v.s]] w (RetO (setR r p) (setE r p) w) := by
  have hb0 : Below w.heap.size w (w.alloc (.cells #[.string p.name, .int .i64 p.v.ty, .int .i64 p.v.n, .string p.v.s] 27)) := (Below.refl _ _).alloc (Nat.le_refl _) _
  obtain ⟨z0, z1, z2, z3⟩ := cell_box4' w (.string p.name) (.int .i64 p.v.ty) (.int .i64 p.v.n) (.string p.v.s) 27
  have h1 := recCheck_any r v _ (hv.below hb0)
  have HV := Lib.hid hv
  obtain ⟨A, c, rfl, _, _⟩ := hv.form
  clear hv
  go_enter Tryz.func6, Tryz.ntmps6
  go_wp2_with fail
  refine h1.mono ?_
  clear h1
  rintro e w1 ⟨rfl, hb1⟩
  have hB1 := hb0.trans (hb1.mono hb0.size)
  have y0 := cell_below hb1 z0
  have y1 := cell_below hb1 z1
  have y2 := cell_below hb1 z2
  have y3 := cell_below hb1 z3
  clear z0 z1 z2 z3 hb0 hb1
  by_cases he : recE r = 0
  case neg =>
    have HE : Hid (errV (setE r p) = .iface 74 (.int .i64 (recE r)) ∧ setR r p = []) := by
      have h0 : setE r p = recE r := by unfold setE; rw [if_neg he]
      exact ⟨by rw [h0]; exact errV_some he, by unfold setR; rw [h0, if_neg he]⟩
    rw [errV_some he]
    clear he
    go_wp2_with fail
    go_ret2
    exact ⟨.slice none 0 0, by rw [HE.out.1]; rfl, by rw [HE.out.2]; exact OwnP.nil, hB1⟩
  obtain ⟨hl8, _, hch⟩ := rec_ok he
  have HE0 : Hid (setE r p = if prpE p = 0 then (if rhas r p.name then 0 else if 8 ≤ r.length then 4 else 0) else prpE p) := by unfold Hid setE; rw [if_pos he]
  rw [errV_zero he]
  clear he
  go_wp2_with fail
  refine (prop_any p hp w1).mono ?_
  rintro e w2 ⟨rfl, hb2⟩
  have hB2 := hB1.trans (hb2.mono hB1.size)
  have x0 := cell_below hb2 y0
  have x1 := cell_below hb2 y1
  have x2 := cell_below hb2 y2
  have x3 := cell_below hb2 y3
  clear y0 y1 y2 y3 hb2 hB1
  by_cases he : prpE p = 0
  case neg =>
    have HE : Hid (errV (setE r p) = .iface 74 (.int .i64 (prpE p)) ∧ setR r p = []) := by
      have h0 : setE r p = prpE p := by rw [HE0.out, if_neg he]
      exact ⟨by rw [h0]; exact errV_some he, by unfold setR; rw [h0, if_neg he]⟩
    rw [errV_some he]
    clear he
    go_wp2_with fail
    go_ret2
    exact ⟨.slice none 0 0, by rw [HE.out.1]; rfl, by rw [HE.out.2]; exact OwnP.nil, hB2⟩
  have HE : Hid (setE r p = if rhas r p.name then 0 else if 8 ≤ r.length then 4 else 0) := by unfold Hid; rw [HE0.out, if_pos he]
  rw [errV_zero he]
  have hfd := rfind_any r p.name _ w2 (HV.out.below hB2) hch (by omega)
  clear he hch HE0
  go_wp2_with fail
  refine hfd.mono ?_
  clear hfd
  rintro e w3 ⟨rfl, hb3⟩
  have hB3 := hB2.trans (hb3.mono hB2.size)
  have y0 := cell_below hb3 x0
  have y1 := cell_below hb3 x1
  have y2 := cell_below hb3 x2
  have y3 := cell_below hb3 x3
  have hK := lowI_le (prpC p.name) r
  have h3lt : w.heap.size < w3.heap.size := World.block_lt_of_cell? _ _ y0
  have HP : Hid (putP r p = if rhas r p.name then r.set (rpos r p.name) p else r.take (rpos r p.name) ++ p :: r.drop (rpos r p.name)) := rfl
  have hcl := clone_prps (HV.out.below hB3) (by omega)
  clear x0 x1 x2 x3 hb3 hB2
  go_wp2_with fail
  refine hcl.mono ?_
  clear hcl
  rintro e w4 ⟨v4, xs, rfl, hown, hrow, hb4⟩
  obtain ⟨rfl, hoks⟩ := Row.flat hrow
  have hown : Own w4 w3.heap.size 27 4 v4 r.length (r.flatMap Prp.enc) := hown
  have hB4 := hB3.trans (hb4.mono hB3.size)
  have h34 := hB3.size
  have hl4 := hb4.size
  have x0 := cell_below hb4 y0
  have x1 := cell_below hb4 y1
  have x2 := cell_below hb4 y2
  have x3 := cell_below hb4 y3
  have HO : Hid (∀ q ∈ r, q.ok) := hoks
  clear y0 y1 y2 y3 hrow hoks
  cases hq : rhas r p.name with
  | true =>
    obtain ⟨d, hd⟩ := rhas_some hq
    have hpl := (List.getElem?_eq_some_iff.1 hd).1
    have HF : Hid (setE r p = 0 ∧ setR r p = r.set (rpos r p.name) p) := by
      have h0 : setE r p = 0 := by rw [HE.out, hq]; rfl
      exact ⟨h0, by unfold setR; rw [if_pos h0, HP.out, hq]; rfl⟩
    obtain ⟨g, o, c4, rfl, hg1, hg2⟩ := hown.addr (by omega)
    have hS := flat_set4 p r (rpos r p.name) hpl
    have hlen := hown.1
    have s1 := hown.store (rpos r p.name * 4) (by omega) (.string p.name)
    have s2 := s1.store (rpos r p.name * 4 + 1) (by omega) (.int .i64 p.v.ty)
    have s3 := s2.store (rpos r p.name * 4 + 2) (by omega) (.int .i64 p.v.n)
    have s4 := s3.store (rpos r p.name * 4 + 3) (by omega) (.string p.v.s)
    rw [hS] at s4
    obtain ⟨b, o', hA, _, q0, q1, q2, q3⟩ := prp_at (hown.prps HO.out) hd
    injection hA with hA
    injection hA with hA1 hA2
    subst hA1; subst hA2
    have f0 := hown.frozen rfl (o + rpos r p.name * 4)
    have f1 := hown.frozen rfl (o + rpos r p.name * 4 + 1)
    have f2 := hown.frozen rfl (o + rpos r p.name * 4 + 2)
    have f3 := hown.frozen rfl (o + rpos r p.name * 4 + 3)
    have hne : w.heap.size ≠ g := by omega
    have HS4 := Lib.hid s4
    have hpl' : (rpos r p.name : Int) < (r.length : Int) := by omega
    have HL : Hid ((r.set (rpos r p.name) p).length = r.length) := List.length_set ..
    have HO2 : Hid (∀ q ∈ r.set (rpos r p.name) p, q.ok) := fun q hq2 => by
      rcases List.mem_or_eq_of_mem_set hq2 with h | rfl
      · exact HO.out q h
      · exact hp
    generalize rpos r p.name = K at *
    clear hq HE HP hd hS s1 s2 s3 s4 hown
    go_wp2_with fail
    go_ret2
    refine ⟨.slice (some ⟨g, o, none⟩) r.length c4, by rw [HF.out.1, errV_zero rfl]; rfl, ?_, ?_⟩
    · rw [HF.out.2]
      exact ⟨(Own.mono (by rw [HL.out]; exact HS4.out) h34), HO2.out⟩
    · exact (((hB4.setCell (p := ⟨g, _, none⟩) (by show w.heap.size ≤ g; omega) _).setCell (p := ⟨g, _, none⟩) (by show w.heap.size ≤ g; omega) _).setCell (p := ⟨g, _, none⟩) (by show w.heap.size ≤ g; omega) _).setCell (p := ⟨g, _, none⟩) (by show w.heap.size ≤ g; omega) _
  | false =>
    by_cases h8 : 8 ≤ r.length
    · have HF : Hid (setE r p = 4 ∧ setR r p = []) := by
        have h0 : setE r p = 4 := by rw [HE.out, hq]; simp [h8]
        exact ⟨h0, by unfold setR; rw [h0]; rfl⟩
      have h8' : (8 : Int) ≤ (r.length : Int) := by omega
      obtain ⟨A4, c4, rfl, _, _⟩ := hown.form
      clear hq HE HP hown
      go_wp2_with fail
      go_ret2
      exact ⟨.slice none 0 0, by rw [HF.out.1]; rfl, by rw [HF.out.2]; exact OwnP.nil, hB4⟩
    · have HF : Hid (setE r p = 0 ∧ setR r p = r.take (rpos r p.name) ++ p :: r.drop (rpos r p.name)) := by
        have h0 : setE r p = 0 := by rw [HE.out, hq]; simp [h8]
        exact ⟨h0, by unfold setR; rw [if_pos h0, HP.out, hq]; rfl⟩
      have h8' : (r.length : Int) < 8 := by omega
      have hK' : rpos r p.name ≤ r.length := hK
      have hfi := flat_insert Prp.enc_len r (rpos r p.name) hK' p
      have hil := ins_prp (w4.alloc (.cells #[.string p.name, .int .i64 p.v.ty, .int .i64 p.v.n, .string p.v.s] 27)) w3.heap.size v4 r.length (r.flatMap Prp.enc) (hown.alloc _) (rpos r p.name) hK' w4.heap.size p.enc rfl (heap_alloc_new _ _) p.enc_one (oneCell_flat Prp.enc_one r)
        (fun e => by have := (hown.lt _ e).2; omega) (by simp; omega) (by omega)
      rw [hfi] at hil
      have HOK : Hid (∀ q ∈ r.take (rpos r p.name) ++ p :: r.drop (rpos r p.name), q.ok) := fun q hq2 => by
        rcases List.mem_append.1 hq2 with h | h
        · exact HO.out q (List.mem_of_mem_take h)
        · rcases List.mem_cons.1 h with rfl | h
          · exact hp
          · exact HO.out q (List.mem_of_mem_drop h)
      have HL : Hid ((r.take (rpos r p.name) ++ p :: r.drop (rpos r p.name)).length = r.length + 1) := by unfold Hid; simp; omega
      generalize r.take (rpos r p.name) ++ p :: r.drop (rpos r p.name) = r' at *
      generalize rpos r p.name = K at *
      have HW := Lib.hid hown
      obtain ⟨A4, c4, rfl, _, _⟩ := hown.form
      clear hq HE HP hfi hown
      go_wp2_with fail
      refine hil.mono ?_
      clear hil
      rintro e w5 ⟨v5, rfl, hown5, hg5⟩
      rw [← HL.out] at hown5
      have hsl := hown5.mono h34
      have hB5 : Below w.heap.size w w5 := (hB4.alloc hB4.size _).grown hg5 (by have := hB4.size; simp; omega) (fun kk e => by have := (HW.out.lt kk e).1; omega)
      obtain ⟨A5, c5, rfl, _, _⟩ := hown5.form
      have HSL := Lib.hid hsl
      clear hg5 hown5 hsl
      go_wp2_with fail
      go_ret2
      exact ⟨.slice A5 r'.length c5, by rw [HF.out.1, errV_zero rfl]; rfl, by rw [HF.out.2]; exact ⟨HSL.out, HOK.out⟩, hB5⟩
theorem set_any (r : List Prp) (p : Prp) (v : Value) (w : World) (hv : Sl prpL w v r) (hp : p.ok) :
    Calls Tryz.prog 6 #[v, .agg #[.string p.name, .int .i64 p.v.ty, .int .i64 p.v.n, .string p.v.s]] w (RetR (setR r p) (setE r p) w) := (set_own r p v w hv hp).mono fun _ _ h => h.r
end Go.Proofs.YtmbeeaohidgfgaaGreatDoor
