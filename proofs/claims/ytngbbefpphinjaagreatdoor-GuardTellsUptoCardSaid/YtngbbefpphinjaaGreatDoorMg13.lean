/- Parts: Chk2, KinI, KinJ, KinK, Qg, Chk3, Mk. -/
import Derived.Test.YtngbbefpphinjaaGreatDoorMg12
import Derived.Test.YtngbbefpphinjaaGreatDoorMg11
import Derived.Test.YtngbbefpphinjaaGreatDoorMg02
import Derived.Test.YtngbbefpphinjaaGreatDoorMg04
import Derived.Deep.RegionHeld3
import Derived.Test.YtngbbefpphinjaaGreatDoorMg05
import Derived.MapKept
/- Contract: a checker and a node by itself. No condition. -/
namespace Go.Proofs.YtngbbefpphinjaaGreatDoor
open Go Go.RowKit
def kfl (s : Scm) (nm : ByteArray) : List Fld := if kFind s.kinds nm < 0 then [] else (fieldsOf s.kinds nm).getD []
def aloneF (s : Scm) (n : Nod) : List Flt := if kFind s.kinds n.kind < 0 then [⟨1, n.id, n.kind⟩] else recF (kfl s n.kind) n
structure CkOk (s : Scm) : Prop where
 l : s.kinds.length <= 12
 o : ∀ k ∈ s.kinds, k.ofs.length <= 64
 f : ∀ k ∈ s.kinds, k.fields.length <= 8
def AloneR (B bc : Nat) (vk vb vn vt mv : Value) (fs : List Flt) (s : Scm) (n : Nod) (w : World) (e : Ending) (w' : World) : Prop :=
 ∃ v, e = .returned (.tuple #[v, .bool (decide (0 <= kFind s.kinds n.kind))]) /\ Own w' B 84 4 v (kfl s n.kind).length ((kfl s n.kind).flatMap Fld.enc) /\ (∀ x ∈ kfl s n.kind, x.ok) /\ Told1 B w w' bc vk vb vn vt mv (fs ++ aloneF s n)
set_option maxRecDepth 100000 in
set_option maxHeartbeats 8000000 in
theorem alone_any (B bc : Nat) (vk vb vn vt mv out : Value) (fs : List Flt) (s : Scm) (n : Nod) (u : Value) (W1 w : World) (hBW : B = W1.heap.size) (hW : Below W1.heap.size W1 w) (hC : Ck B w bc vk vb vn vt mv out fs)
 (hs : ScmR W1 vk vb s) (hok : CkOk s) (hu : Sl prpL W1 u n.props) (hid : I64 n.id) (hkd : Sm n.kind) (hch : chain prpLt n.props = true) (hpl : n.props.length <= 1000) (hfl : (kfl s n.kind).length <= 1000) (hl : fs.length <= 90000) :
 Calls Tryz.prog 169 #[.pointer (some ⟨bc, 0, none⟩), .agg #[.int .i64 n.id, .string n.kind, u]] w (AloneR B bc vk vb vn vt mv fs s n w) := by
 obtain ⟨Au, cu, rfl, _, _⟩ := hu.form
 obtain ⟨Ak, ck, rfl, _, _⟩ := hs.1.form
 obtain ⟨Ab, cb, rfl, _, _⟩ := hs.2.form
 have hb0 : Below w.heap.size w (w.alloc (.cells #[.int .i64 n.id, .string n.kind, .slice Au n.props.length cu] 29)) := (Below.refl _ _).alloc (Nat.le_refl _) _
 have g0 := heap_alloc_new w (.cells #[.int .i64 n.id, .string n.kind, .slice Au n.props.length cu] 29)
 generalize hW0 : w.alloc (.cells #[.int .i64 n.id, .string n.kind, .slice Au n.props.length cu] 29) = W0 at *
 have hwB : B <= w.heap.size := by rw [hBW]; exact hW.size
 have hw0 := hb0.size
 have hW01 : Below W1.heap.size W1 W0 := hW.trans (hb0.mono hW.size)
 have hC0 := hC.below hb0
 have y0 := block_cell hC0.q 0
 have x0 := block_cell g0 0
 have x1 := block_cell g0 1
 have x2 := block_cell g0 2
 have HC0 := Lib.hid hC0
 have HG0 := Lib.hid g0
 have HS := Lib.hid hs
 have HU := Lib.hid hu
 have HK : Hid (∀ W, Below W1.heap.size W1 W -> Calls Tryz.prog 85 #[.slice Ak s.kinds.length ck, .string n.kind] W fun e w' => e = .returned (.int .i64 (kFind s.kinds n.kind)) /\ Below W.heap.size W w') := fun W h => kFind_any s.kinds n.kind _ W (HS.out.below h).1
 have HFO : Hid (∀ W, Below W1.heap.size W1 W -> Calls Tryz.prog 86 #[.slice Ak s.kinds.length ck, .string n.kind] W (FieldsO s.kinds n.kind W)) := fun W h => fieldsOfO_any s.kinds n.kind _ W (HS.out.below h).1 hkd (by have := hok.l; omega) hok.o hok.f
 have HAF : Hid (aloneF s n = if kFind s.kinds n.kind < 0 then [⟨1, n.id, n.kind⟩] else recF (kfl s n.kind) n) := rfl
 have HKF : Hid (kfl s n.kind = if kFind s.kinds n.kind < 0 then [] else (fieldsOf s.kinds n.kind).getD []) := rfl
 have hT0 : Told1 B w W0 bc (.slice Ak s.kinds.length ck) (.slice Ab s.bonds.length cb) vn vt mv fs := Told1.first hb0 hwB ⟨⟨_, hC0⟩, Below.refl _ _, fun _ _ _ => Same.refl _ _, fun _ _ _ h => h, Nat.le_refl _⟩
 have HT0 := Lib.hid hT0
 have HKD := Lib.hid hkd
 generalize hkf : kFind s.kinds n.kind = z at *
 have HKZ := Lib.hid hkf
 have HBW := Lib.hid hBW
 clear hC hs hu hC0 g0 hok hT0 hkd hkf hBW
 go_enter Tryz.func169, Tryz.ntmps169
 go_wp2_with fail
 clear hW0
 refine wp_mid_k 7 _ rfl rfl (by kernel_rfl) (by kernel_rfl) ?_
 simp only [List.take_succ_cons, List.take_zero, List.drop_succ_cons, List.drop_zero]
 repeat (go_big_quiet_step (fail))
 refine wpQuiet_nil ?_
 intro _ hw'
 obtain ⟨nq, hw''⟩ := hw'
 subst hw''
 intro K hK
 have hk1 := HK.out (W0.drewN nq) (hW01.trans (below_drewN (Below.refl _ _) nq))
 go_wp2_with fail
 refine hk1.mono ?_
 clear hk1
 rintro e w2 ⟨rfl, hb2⟩
 have hb02 := (below_drewN (Below.refl W0.heap.size W0) nq).trans hb2
 refine hK _ _ ?_
 repeat (go_big_quiet_step (fail))
 refine wpQuiet_nil ?_
 intro _ hw'
 obtain ⟨nq2, hw''⟩ := hw'
 subst hw''
 clear hK
 have hbW := below_drewN hb02 nq2
 generalize w2.drewN nq2 = W2 at *
 have hB2 : B <= W2.heap.size := by have := hbW.size; omega
 have hW12 : Below W1.heap.size W1 W2 := hW01.trans (hbW.mono hW01.size)
 have hB0 : B <= W0.heap.size := by omega
 have HT2 := Lib.hid (HT0.out.last hB0 hbW)
 have HC2 := Lib.hid (HC0.out.below hbW)
 have hg2 := (hbW.block _ (geB HG0.out)).trans HG0.out
 have y0 := block_cell HC2.out.q 0
 have x0 := block_cell hg2 0
 have x1 := block_cell hg2 1
 have x2 := block_cell hg2 2
 have HG2 := Lib.hid hg2
 clear hb2 hb02 hbW HT0 HC0 HG0 hg2 HK hW01
 by_cases hz : z < 0
 ·have hz' : decide (z < 0) = true := decide_eq_true hz
  have HA : Hid (aloneF s n = [⟨1, n.id, n.kind⟩] /\ kfl s n.kind = []) := ⟨by rw [HAF.out, if_pos hz], by rw [HKF.out, if_pos hz]⟩
  have htell := tell_any B bc _ _ vn vt mv out fs ⟨1, n.id, n.kind⟩ W2 hB2 HC2.out ⟨⟨by show (-9223372036854775808 : Int) <= 1; omega, by show (1 : Int) <= 9223372036854775807; omega⟩, hid, HKD.out⟩ (by omega)
  have HZ : Hid (decide (0 <= kFind s.kinds n.kind) = false) := by unfold Hid; rw [HKZ.out]; exact decide_eq_false (by omega)
  clear HAF HKF HC2 HFO
  go_wp2_with fail
  refine htell.mono ?_
  clear htell
  rintro e w5 ⟨rfl, ht5⟩
  have HT5 := Lib.hid (HT2.out.trans ht5)
  clear ht5
  go_wp2_with fail
  go_ret2
  exact ⟨.slice none 0 0, by rw [HZ.out]; rfl, by rw [HA.out.2]; exact Own.nil _ _ _ _, by rw [HA.out.2]; exact (fun x hx => by cases hx), by rw [HA.out.1]; exact HT5.out⟩
 have hz' : decide (z < 0) = false := decide_eq_false hz
 have HA : Hid (aloneF s n = recF (kfl s n.kind) n /\ kfl s n.kind = (fieldsOf s.kinds n.kind).getD []) := ⟨by rw [HAF.out, if_neg hz], by rw [HKF.out, if_neg hz]⟩
 have HZ : Hid (decide (0 <= kFind s.kinds n.kind) = true) := by unfold Hid; rw [HKZ.out]; exact decide_eq_true (by omega)
 have hz2 : (0 : Int) <= z := by omega
 clear HAF HKF hz
 go_wp2_with fail
 refine wp_mid_k 7 _ rfl rfl (by kernel_rfl) (by kernel_rfl) ?_
 simp only [List.take_succ_cons, List.take_zero, List.drop_succ_cons, List.drop_zero]
 repeat (go_big_quiet_step (fail))
 refine wpQuiet_nil ?_
 intro _ hw'
 obtain ⟨nq, hw''⟩ := hw'
 subst hw''
 intro K hK
 have hf1 := HFO.out (W2.drewN nq) (hW12.trans (below_drewN (Below.refl _ _) nq))
 generalize (fieldsOf s.kinds n.kind).isSome = iss at *
 go_wp2_with fail
 refine hf1.mono ?_
 clear hf1 HFO
 rintro e w3 ⟨v3, rfl, ⟨ho3, hok3⟩, hb3⟩
 rw [<- HA.out.2] at ho3 hok3
 have ho3 := ho3.mono (B' := B) hB2
 obtain ⟨A3, c3, rfl, _, _⟩ := ho3.form
 have hb23 := (below_drewN (Below.refl W2.heap.size W2) nq).trans hb3
 refine hK _ _ ?_
 repeat (go_big_quiet_step (fail))
 refine wpQuiet_nil ?_
 intro _ hw'
 obtain ⟨nq2, hw''⟩ := hw'
 subst hw''
 clear hK
 have hbX := below_drewN hb23 nq2
 have ho4 := ho3.drewN nq2
 generalize w3.drewN nq2 = W3 at *
 have hB3 : B <= W3.heap.size := by have := hbX.size; omega
 have hW13 : Below W1.heap.size W1 W3 := hW12.trans (hbX.mono hW12.size)
 have HT3 := Lib.hid (HT2.out.last hB2 hbX)
 have hc3 := HC2.out.below hbX
 have hg3 := (hbX.block _ (geB HG2.out)).trans HG2.out
 have x0 := block_cell hg3 0
 have x1 := block_cell hg3 1
 have x2 := block_cell hg3 2
 have hrec := record_any B bc _ _ vn vt mv out fs n (kfl s n.kind) _ _ W1 W3 HBW.out hW13 hc3 HU.out hid hch hpl ho4 hok3 hfl hl
 have HO4 := Lib.hid ho4
 have HOK := Lib.hid hok3
 generalize hfl0 : kfl s n.kind = fl at *
 have HFL := Lib.hid hfl0.symm
 clear hfl0
 clear hb3 hb23 hbX ho3 hok3 ho4 hc3 hg3 y0 HC2 HG2 HT2
 go_wp2_with fail
 refine hrec.mono ?_
 clear hrec
 rintro e w5 ⟨rfl, ht5⟩
 have HT5 := Lib.hid (HT3.out.trans ht5)
 have HO5 := Lib.hid (HO4.out.same (ht5.s 84 (by decide) (by decide)))
 clear ht5
 go_wp2_with fail
 go_ret2
 exact ⟨.slice A3 fl.length c3, by rw [HZ.out]; rfl, by rw [<- HFL.out]; exact HO5.out, by rw [<- HFL.out]; exact HOK.out, by rw [HA.out.1]; exact HT5.out⟩
theorem Sl.take {D : Type} {L : Lay D} {w : World} {A : Option Addr} {n c : Nat} {l : List D} (h : Sl L w (.slice A n c) l) {k : Nat} (hk : k <= l.length) : Sl L w (.slice A k c) (l.take k) := by
 obtain ⟨A', c', hv, h1, h2, h3⟩ := h
 injection hv with hA hn hc
 subst hA; subst hc
 have hl : (l.take k).length = k := by simp; omega
 refine ⟨A, c, by rw [hl], by rw [hl]; omega, h2, fun i d hi => ?_⟩
 rw [List.getElem?_take] at hi
 split at hi
 ·exact h3 i d hi
 cases hi
theorem errV7 : errV 7 = .iface 122 (.int .i64 7) := by simp [errV]
theorem errV4 : errV 4 = .iface 122 (.int .i64 4) := by simp [errV]
theorem errV5 : errV 5 = .iface 122 (.int .i64 5) := by simp [errV]
theorem errV0 : errV 0 = .nilIface := by simp [errV]
theorem ofsE_step {l : List Knd} {r : List ByteArray} {j : Nat} {s : ByteArray} (hs : r[j]? = some s) {E : Int} (h : E = ofsE l (r.take j) (r.drop j)) :
 E = if kFind l s < 0 then 5 else if (r.take j).any (fun y => decide (s = y)) then 7 else ofsE l (r.take (j + 1)) (r.drop (j + 1)) := by
 rw [h, drop_cons hs, ofsE, take_step hs]
set_option maxRecDepth 100000 in
set_option maxHeartbeats 8000000 in
theorem one_any (l : List Knd) (k : Knd) (v u1 u2 : Value) (w : World) (hv : Sl kndL w v l) (h1 : Sl strL w u1 k.ofs) (h2 : Sl fldL w u2 k.fields) (hnm : Sm k.name) (hl : l.length <= 12) (hofs : ∀ x ∈ l, x.ofs.length <= 4) (hfl : ∀ x ∈ l, x.fields.length <= 8) :
 Calls Tryz.prog 220 #[v, .agg #[.string k.name, u1, u2]] w fun e w' => e = .returned (errV (oneE l k)) /\ Below w.heap.size w w' := by
 obtain ⟨A, c, rfl, _, hcA⟩ := hv.form
 obtain ⟨A1, c1, rfl, _, hc1⟩ := h1.form
 obtain ⟨A2, c2, rfl, _, hc2⟩ := h2.form
 unfold maxLen at hc1 hc2 hcA
 obtain ⟨z0, z1, z2⟩ := cell_box3 w (.string k.name) (.slice A1 k.ofs.length c1) (.slice A2 k.fields.length c2) 80
 have hb0 : Below w.heap.size w (w.alloc (.cells #[.string k.name, .slice A1 k.ofs.length c1, .slice A2 k.fields.length c2] 80)) := (Below.refl _ _).alloc (Nat.le_refl _) _
 have HOF := Lib.hid hofs
 have HFL := Lib.hid hfl
 clear hofs hfl
 go_enter Tryz.func220, Tryz.ntmps220
 go_wp2_with fail
 refine (name_any k.name _ hnm).mono ?_
 rintro e w1 ⟨rfl, hb1⟩
 have hB1 := hb0.trans (hb1.mono hb0.size)
 have p0 := cell_below hb1 z0
 have p1 := cell_below hb1 z1
 have p2 := cell_below hb1 z2
 generalize w.alloc (.cells #[.string k.name, .slice A1 k.ofs.length c1, .slice A2 k.fields.length c2] 80) = W at *
 clear z0 z1 z2
 by_cases hn : nameE k.name = 0
 case neg =>
  have HE : Hid (errV (oneE l k) = .iface 122 (.int .i64 (nameE k.name))) := by unfold Hid oneE; rw [if_neg hn, errV_some hn]
  rw [errV_some hn]
  clear hn
  go_wp2_with fail
  go_ret
  exact ⟨by rw [HE.out]; rfl, hB1⟩
 have HE1 : Hid (oneE l k = if 0 <= kFind l k.name then 7 else if 4 < k.ofs.length then 4 else if 8 < k.fields.length then 4 else if ofsE l [] k.ofs = 0 then if fldsE none k.fields = 0 then sumE (fieldsOf (l ++ [k]) k.name) else fldsE none k.fields else ofsE l [] k.ofs) := by
  unfold Hid oneE; rw [if_pos hn]
 rw [errV_zero hn]
 clear hn
 go_wp2_with fail
 refine (kFind_any l k.name _ _ (hv.below hB1)).mono ?_
 rintro e w2 ⟨rfl, hb2⟩
 have hB2 := hB1.trans (hb2.mono hB1.size)
 have q0 := cell_below hb2 p0
 have q1 := cell_below hb2 p1
 have q2 := cell_below hb2 p2
 clear p0 p1 p2 hb1 hB1
 generalize kFind l k.name = z at *
 by_cases hz : 0 <= z
 case pos =>
  have HE : Hid (errV (oneE l k) = .iface 122 (.int .i64 7)) := by unfold Hid; rw [HE1.out, if_pos hz, errV7]
  clear HE1
  go_wp2_with fail
  go_ret
  exact ⟨by rw [HE.out]; rfl, hB2⟩
 have hz' : z < 0 := by omega
 have HE2 : Hid (oneE l k = if 4 < k.ofs.length then 4 else if 8 < k.fields.length then 4 else if ofsE l [] k.ofs = 0 then if fldsE none k.fields = 0 then sumE (fieldsOf (l ++ [k]) k.name) else fldsE none k.fields else ofsE l [] k.ofs) := by
  unfold Hid; rw [HE1.out, if_neg hz]
 clear HE1 hz
 by_cases h4 : 4 < k.ofs.length
 case pos =>
  have HE : Hid (errV (oneE l k) = .iface 122 (.int .i64 4)) := by unfold Hid; rw [HE2.out, if_pos h4, errV4]
  have h4' : (4 : Int) < (k.ofs.length : Int) := by omega
  clear HE2
  go_wp2_with fail
  go_ret
  exact ⟨by rw [HE.out]; rfl, hB2⟩
 have h4' : (k.ofs.length : Int) <= 4 := by omega
 by_cases h8 : 8 < k.fields.length
 case pos =>
  have HE : Hid (errV (oneE l k) = .iface 122 (.int .i64 4)) := by unfold Hid; rw [HE2.out, if_neg h4, if_pos h8, errV4]
  have h8' : (8 : Int) < (k.fields.length : Int) := by omega
  clear HE2
  go_wp2_with fail
  go_ret
  exact ⟨by rw [HE.out]; rfl, hB2⟩
 have h8' : (k.fields.length : Int) <= 8 := by omega
 have HE3 : Hid (oneE l k = if ofsE l [] k.ofs = 0 then if fldsE none k.fields = 0 then sumE (fieldsOf (l ++ [k]) k.name) else fldsE none k.fields else ofsE l [] k.ofs) := by
  unfold Hid; rw [HE2.out, if_neg h4, if_neg h8]
 clear HE2
 go_wp2_with fail
 go_loopw [39] (fun i wr => ∃ j : Nat, j <= k.ofs.length /\ i = .int .i64 j /\ Below w2.heap.size w2 wr /\ Hid (ofsE l [] k.ofs = ofsE l (k.ofs.take j) (k.ofs.drop j))) (fun i _ => k.ofs.length - (intOf i).toNat)
 case atStart => exact ⟨0, Nat.zero_le _, rfl, Below.refl _ _, rfl⟩
 obtain ⟨j, hj, rfl, hbr, HR⟩ := hrel
 have hBr := hB2.trans (hbr.mono hB2.size)
 have r0 := cell_below hbr q0
 have r1 := cell_below hbr q1
 have r2 := cell_below hbr q2
 clear q0 q1 q2 hb2 hB2
 by_cases hlt : j < k.ofs.length
 ·obtain ⟨s, hs⟩ : ∃ s, k.ofs[j]? = some s := ⟨_, List.getElem?_eq_getElem hlt⟩
  obtain ⟨bs, os, rfl, hss, x0⟩ := str_at (h1.below hBr) hs
  have HS := Lib.hid (ofsE_step hs HR.out)
  have hlt' : (j : Int) < (k.ofs.length : Int) := by omega
  have htk := h1.take hj
  clear hs HR
  go_wp2_with fail
  refine (kFind_any l s _ _ (hv.below hBr)).mono ?_
  rintro e w3 ⟨rfl, hb3⟩
  have hB3 := hBr.trans (hb3.mono hBr.size)
  have s0 := cell_below hb3 r0
  have s1 := cell_below hb3 r1
  have s2 := cell_below hb3 r2
  clear r0 r1 r2 x0
  generalize kFind l s = z2 at *
  by_cases hz2 : z2 < 0
  ·have HE : Hid (errV (oneE l k) = .iface 122 (.int .i64 5)) := by unfold Hid; rw [HE3.out, HS.out, if_pos hz2, if_neg (by omega), errV5]
   clear HE3 HS
   go_wp2_with fail
   go_ret
   exact ⟨by rw [HE.out]; rfl, hB3⟩
  have hz3 : 0 <= z2 := by omega
  have HS2 : Hid (ofsE l [] k.ofs = if (k.ofs.take j).any (fun y => decide (s = y)) then 7 else ofsE l (k.ofs.take (j + 1)) (k.ofs.drop (j + 1))) := by unfold Hid; rw [HS.out, if_neg hz2]
  have hj' : (j : Int) <= (c1 : Int) := by omega
  clear HS hz2
  go_wp2_with fail
  refine (containsStr_any _ s _ _ (htk.below hB3)).mono ?_
  rintro e w4 ⟨rfl, rfl⟩
  cases hany : (k.ofs.take j).any (fun y => decide (s = y)) with
  | true =>
   have HE : Hid (errV (oneE l k) = .iface 122 (.int .i64 7)) := by unfold Hid; rw [HE3.out, HS2.out, hany, if_pos rfl, if_neg (by omega), errV7]
   clear HE3 HS2 hany
   go_wp2_with fail
   go_ret
   exact ⟨by rw [HE.out]; rfl, hB3⟩
  | false =>
   have HN : Hid (ofsE l [] k.ofs = ofsE l (k.ofs.take (j + 1)) (k.ofs.drop (j + 1))) := by unfold Hid; rw [HS2.out, hany]; simp
   clear HE3 HS2 hany
   go_wp2_with fail
   go_roundw
   case rel => exact ⟨j + 1, by omega, by go_num, hbr.trans (hb3.mono hbr.size), HN⟩
   case measure => simp [intOf]; omega
 obtain rfl : j = k.ofs.length := by omega
 have HO : Hid (ofsE l [] k.ofs = 0) := by unfold Hid; rw [HR.out, List.drop_length]; rfl
 have HE4 : Hid (oneE l k = if fldsE none k.fields = 0 then sumE (fieldsOf (l ++ [k]) k.name) else fldsE none k.fields) := by unfold Hid; rw [HE3.out, if_pos HO.out]
 clear HE3 HO HR
 go_wp2_with fail
 refine (flds_any k.fields _ _ (h2.below hBr)).mono ?_
 rintro e w3 ⟨rfl, hb3⟩
 have hB3 := hBr.trans (hb3.mono hBr.size)
 have s0 := cell_below hb3 r0
 have s1 := cell_below hb3 r1
 have s2 := cell_below hb3 r2
 clear r0 r1 r2
 by_cases hf : fldsE none k.fields = 0
 case neg =>
  have HE : Hid (errV (oneE l k) = .iface 122 (.int .i64 (fldsE none k.fields))) := by unfold Hid; rw [HE4.out, if_neg hf, errV_some hf]
  rw [errV_some hf]
  clear hf HE4
  go_wp2_with fail
  go_ret
  exact ⟨by rw [HE.out]; rfl, hB3⟩
 have HE5 : Hid (oneE l k = sumE (fieldsOf (l ++ [k]) k.name)) := by unfold Hid; rw [HE4.out, if_pos hf]
 rw [errV_zero hf]
 clear hf HE4
 have hv3 := hv.below hB3
 have hbs : w.heap.size < w3.heap.size := World.block_lt_of_cell? _ _ s0
 obtain ⟨i0, ei, ez, ez1, ez2⟩ := info_parts clone_knds_info
 go_wp2_with fail
 go_region_held3 (fun w' => w'.cell? ⟨w.heap.size, 0, none⟩ = some (.string k.name) /\ w'.cell? ⟨w.heap.size, 1, none⟩ = some (.slice A1 k.ofs.length c1) /\ w'.cell? ⟨w.heap.size, 2, none⟩ = some (.slice A2 k.fields.length c2))
  (first
    | exact hkeep
    | go_keep)
  (first
    | (go_at_call 126
       refine (clone_knds (l := l) (hv3.below (Below.refl _ _).drew) (by omega)).mono ?_
       rintro e w4 ⟨cv, xs, rfl, hown, hrow, hb4⟩
       have hkeep := And.intro (cell_below hb4 s0) (And.intro (cell_below hb4 s1) (cell_below hb4 s2))
       have hordA : True := trivial)
    | (go_at_call 126
       refine (clone_knds (l := l) (hv3.below ((Below.refl _ _).drew.alloc (Nat.le_refl _) _)) (by omega)).mono ?_
       rintro e w4 ⟨cv, xs, rfl, hown, hrow, hb4⟩
       have hkeep := And.intro (cell_below hb4 (cell_below ((Below.refl _ _).alloc (Nat.le_refl _) _) s0)) (And.intro (cell_below hb4 (cell_below ((Below.refl _ _).alloc (Nat.le_refl _) _) s1)) (cell_below hb4 (cell_below ((Below.refl _ _).alloc (Nat.le_refl _) _) s2)))
       have hordB : True := trivial)
    | (have _t := hordA
       refine wp_append_q _ (.tmp 66) (.tmp 68) 58 rfl w3.heap.size 80 i0 (.agg #[.string .empty, .slice none 0 0, .slice none 0 0]) 3 64 Tryz.underlying58 ei ez ez1 ez2 rfl (by decide) cv l.length xs rfl (hown.alloc _) (some ⟨w4.heap.size, 0, none⟩) 1 1 [.string k.name, .slice A1 k.ofs.length c1, .slice A2 k.fields.length c2] rfl rfl
         (fun _ => ⟨_, rfl, fun j u hj => by rw [addr_add, Nat.zero_add, World.cell?_alloc_at _ _ _ _ rfl]; simpa using hj⟩) (fun u hu => by simp at hu; rcases hu with rfl | rfl | rfl <;> rfl) (by unfold maxLen; omega) (by omega) (by have := hb4.size; simp at this ⊢; omega) ?_
       intro v7 w7 hown7 hg7 hat7
       have hbX := (hb4.alloc hb4.size _).grown hg7 (by have := hb4.size; simp at this ⊢; omega) (fun kk e => (hown.lt kk e).1)
       have hb7 : Below w3.heap.size w3 w7 := (Below.refl _ _).drew.trans hbX
       have hrow7 := hrow.below hbX
       have hkeep := And.intro (cell_below hb7 s0) (And.intro (cell_below hb7 s1) (cell_below hb7 s2))
       clear hordA)
    | (have _t := hordB
       refine wp_append_q _ (.tmp 66) (.tmp 68) 58 rfl w3.heap.size 80 i0 (.agg #[.string .empty, .slice none 0 0, .slice none 0 0]) 3 64 Tryz.underlying58 ei ez ez1 ez2 rfl (by decide) cv l.length xs rfl (hown.mono (by simp)) (some ⟨w3.heap.size, 0, none⟩) 1 1 [.string k.name, .slice A1 k.ofs.length c1, .slice A2 k.fields.length c2] rfl rfl
         (fun _ => ⟨_, rfl, fun j u hj => by rw [addr_add, Nat.zero_add]; exact cell_below hb4 (by show (w3.alloc _).cell? _ = _; rw [World.cell?_alloc_at _ _ _ _ rfl]; simpa using hj)⟩) (fun u hu => by simp at hu; rcases hu with rfl | rfl | rfl <;> rfl) (by unfold maxLen; omega) (by omega) (by have := hb4.size; simp at this ⊢; omega) ?_
       intro v7 w7 hown7 hg7 hat7
       have hbX := hb4.grown hg7 hb4.size (fun kk e => (hown.lt kk e).1)
       have hb7 : Below w3.heap.size w3 w7 := ((Below.refl _ _).alloc (Nat.le_refl _) _).drew.trans (hbX.mono (by simp))
       have hrow7 := hrow.below hbX
       have hkeep := And.intro (cell_below hb7 s0) (And.intro (cell_below hb7 s1) (cell_below hb7 s2))
       clear hordB))
 all_goals
  have hB7 := hB3.trans (hb7.mono hB3.size)
  have hsl7 : Sl kndL w7 v7 (l ++ [k]) := by
   have hr7 : Row kndL w7 (l ++ [k]) (xs ++ [.string k.name, .slice A1 k.ofs.length c1, .slice A2 k.fields.length c2]) :=
    hrow7.snoc ⟨_, _, rfl, hnm, h1.below hB7, h2.below hB7⟩
   exact Own.row (L := kndL) (by rw [List.length_append]; exact hown7) hr7
  obtain ⟨t0, t1, t2⟩ := hkeep
  have hfo := fieldsOf_any (l ++ [k]) k.name v7 w7 hsl7 hnm (by simp; omega) (fun x hx => by
   rcases List.mem_append.1 hx with h | h
   ·have := HOF.out x h; omega
   ·simp at h; subst h; omega) (fun x hx => by
   rcases List.mem_append.1 hx with h | h
   ·exact HFL.out x h
   simp at h; subst h; omega)
  clear hg7 hat7 hown7 hown hrow hrow7 hbX
  generalize l ++ [k] = l7 at *
  obtain ⟨A7, c7, rfl, _, _⟩ := hsl7.form
  clear hsl7
  go_wp2_with fail
  refine hfo.mono ?_
  clear hfo
  rintro e w8 ⟨fv, rfl, hfs, hb8⟩
  have hB8 := hB7.trans (hb8.mono hB7.size)
  obtain ⟨Af, cf, rfl, _, _⟩ := hfs.form
  have hf2 := hfs
  cases hF : fieldsOf l7 k.name with
  | none =>
   have HE : Hid (errV (oneE l k) = .iface 122 (.int .i64 7)) := by unfold Hid; rw [HE5.out, hF]; simp [sumE, errV]
   clear HE5 hF hfs hf2
   simp only [Option.isSome, Option.getD]
   go_wp2_with fail
   go_ret
   exact ⟨by rw [HE.out]; rfl, hB8⟩
  | some fs =>
   simp only [Option.isSome, Option.getD]
   by_cases h9 : 8 < fs.length
   ·have HE : Hid (errV (oneE l k) = .iface 122 (.int .i64 4)) := by unfold Hid; rw [HE5.out, hF]; simp [sumE, h9, errV]
    have h9' : (8 : Int) < (fs.length : Int) := by omega
    clear HE5 hF hfs hf2
    go_wp2_with fail
    go_ret
    exact ⟨by rw [HE.out]; rfl, hB8⟩
   have HE : Hid (errV (oneE l k) = .nilIface) := by unfold Hid; rw [HE5.out, hF]; simp [sumE, h9, errV]
   have h9' : (fs.length : Int) <= 8 := by omega
   clear HE5 hF hfs hf2
   go_wp2_with fail
   go_ret
   exact ⟨by rw [HE.out]; rfl, hB8⟩
theorem kindsE_step {l : List Knd} {j : Nat} {k : Knd} (hk : l[j]? = some k) {E : ByteArray × Int} (h : E = kindsE (l.take j) (l.drop j)) :
 E = if oneE (l.take j) k = 0 then kindsE (l.take (j + 1)) (l.drop (j + 1)) else (k.name, oneE (l.take j) k) := by
 rw [h, drop_cons hk, kindsE, take_step hk]
def CheckR (l : List Knd) (w : World) (e : Ending) (w' : World) : Prop := e = .returned (.tuple #[.string (checkE l).1, errV (checkE l).2]) /\ Below w.heap.size w w'
theorem oneE_ofl {l : List Knd} {k : Knd} (h : oneE l k = 0) : k.ofs.length <= 4 /\ k.fields.length <= 8 := ⟨(oneE_zero h).ofl, (oneE_zero h).fll⟩
set_option maxRecDepth 100000 in
set_option maxHeartbeats 4000000 in
theorem kcheck_any (l : List Knd) (v : Value) (w : World) (hv : Sl kndL w v l) : Calls Tryz.prog 174 #[v] w (CheckR l w) := by
 obtain ⟨A, c, rfl, hlc, hcA⟩ := hv.form
 unfold maxLen at hcA
 have hlm : (l.length : Int) <= 9223372036854775807 := by omega
 by_cases h12 : 12 < l.length
 ·have HE : Hid (checkE l = (.empty, 4)) := by unfold Hid checkE; rw [if_pos h12]
  have h12' : (12 : Int) < (l.length : Int) := by omega
  clear hv
  go_enter Tryz.func174, Tryz.ntmps174
  go_wp2_with fail
  go_ret2
  exact ⟨by rw [HE.out, errV4]; rfl, Below.refl _ _⟩
 have h12' : (l.length : Int) <= 12 := by omega
 have HE0 : Hid (checkE l = kindsE [] l) := by unfold Hid checkE; rw [if_neg h12]
 go_enter Tryz.func174, Tryz.ntmps174
 go_wp2_with fail
 go_loopw [13] (fun i wr => ∃ j : Nat, j <= l.length /\ i = .int .i64 j /\ Below w.heap.size w wr /\ Hid (kindsE [] l = kindsE (l.take j) (l.drop j)) /\ Hid (∀ x ∈ l.take j, x.ofs.length <= 4 /\ x.fields.length <= 8)) (fun i _ => l.length - (intOf i).toNat)
 case atStart => exact ⟨0, Nat.zero_le _, rfl, Below.refl _ _, rfl, fun x hx => by simp at hx⟩
 obtain ⟨j, hj, rfl, hbr, HR, HS⟩ := hrel
 by_cases hlt : j < l.length
 ·obtain ⟨k, hk⟩ : ∃ k, l[j]? = some k := ⟨_, List.getElem?_eq_getElem hlt⟩
  obtain ⟨b, o, rfl, u, x, hnm, hso, hsf, c0, c1, c2⟩ := knd_at (hv.below hbr) hk
  obtain ⟨A1, q1, rfl, _, _⟩ := hso.form
  obtain ⟨A2, q2, rfl, _, _⟩ := hsf.form
  obtain ⟨z0, z1, z2⟩ := cell_box3 wr (.string k.name) (.slice A1 k.ofs.length q1) (.slice A2 k.fields.length q2) 80
  have hbb : Below wr.heap.size wr (wr.alloc (.cells #[.string k.name, .slice A1 k.ofs.length q1, .slice A2 k.fields.length q2] 80)) := (Below.refl _ _).alloc (Nat.le_refl _) _
  have hlt' : (j : Int) < (l.length : Int) := by omega
  have hjc : (j : Int) <= (c : Int) := by omega
  have hlk : (l.take j).length <= 12 := by simp; omega
  have HV : Hid (Sl kndL (wr.alloc (.cells #[.string k.name, .slice A1 k.ofs.length q1, .slice A2 k.fields.length q2] 80)) (.slice (some ⟨b, o, none⟩) j c) (l.take j)) := (Sl.take ((hv.below hbr).below hbb) hj)
  have HSO := Lib.hid (hso.below hbb)
  have HSF := Lib.hid (hsf.below hbb)
  have HK := Lib.hid (kindsE_step hk HR.out)
  have HT := Lib.hid (take_step hk)
  clear hk HR hso hsf
  go_wp2_with fail
  refine wp_mid_k 4 _ rfl rfl (by kernel_rfl) (by kernel_rfl) ?_
  simp only [List.take_succ_cons, List.take_zero, List.drop_succ_cons, List.drop_zero]
  repeat (go_big_quiet_step (fail))
  refine wpQuiet_nil ?_
  intro _ hw'
  obtain ⟨nq, hw''⟩ := hw'
  subst hw''
  intro K hK
  have hone := one_any (l.take j) k _ _ _ _ (HV.out.below (below_drewN (Below.refl _ _) nq)) (HSO.out.below (below_drewN (Below.refl _ _) nq)) (HSF.out.below (below_drewN (Below.refl _ _) nq)) hnm hlk (fun x hx => (HS.out x hx).1) (fun x hx => (HS.out x hx).2)
  have hbN : Below w.heap.size w ((wr.alloc (.cells #[.string k.name, .slice A1 k.ofs.length q1, .slice A2 k.fields.length q2] 80)).drewN nq) := below_drewN (hbr.alloc hbr.size _) nq
  have y0 : ((wr.alloc (.cells #[.string k.name, .slice A1 k.ofs.length q1, .slice A2 k.fields.length q2] 80)).drewN nq).cell? ⟨wr.heap.size, 0, none⟩ = some (.string k.name) := z0
  go_wp2_with fail
  refine hone.mono ?_
  clear hone
  rintro e w3 ⟨rfl, hb3⟩
  have hB3 := hbN.trans (hb3.mono hbN.size)
  have x0 := cell_below hb3 y0
  clear y0 z0 z1 z2 hb3 hbN
  by_cases he : oneE (l.take j) k = 0
  ·have HN : Hid (kindsE [] l = kindsE (l.take (j + 1)) (l.drop (j + 1))) := by unfold Hid; rw [HK.out, if_pos he]
   have HS2 : Hid (∀ x ∈ l.take (j + 1), x.ofs.length <= 4 /\ x.fields.length <= 8) := by
    intro x hx
    rw [HT.out] at hx
    rcases List.mem_append.1 hx with h | h
    ·exact HS.out x h
    simp at h; subst h; exact oneE_ofl he
   rw [errV_zero he]
   clear he HK
   refine hK _ _ ?_
   repeat (go_big_quiet_step (fail))
   refine wpQuiet_nil ?_
   intro _ hw'
   obtain ⟨nq2, hw''⟩ := hw'
   subst hw''
   go_wp2_with fail
   go_roundw
   case rel => exact ⟨j + 1, by omega, by go_num, below_drewN hB3 _, HN, HS2⟩
   case measure => simp [intOf]; omega
  have HE : Hid (checkE l = (k.name, oneE (l.take j) k)) := by unfold Hid; rw [HE0.out, HK.out, if_neg he]
  have HV : Hid (errV (oneE (l.take j) k) = .iface 122 (.int .i64 (oneE (l.take j) k))) := errV_some he
  rw [errV_some he]
  clear he HK
  refine hK _ _ ?_
  repeat (go_big_quiet_step (fail))
  refine wpQuiet_nil ?_
  intro _ hw'
  obtain ⟨nq2, hw''⟩ := hw'
  subst hw''
  go_wp2_with fail
  go_ret2
  exact ⟨by rw [HE.out, HV.out]; rfl, below_drewN hB3 _⟩
 obtain rfl : j = l.length := by omega
 have HE : Hid (checkE l = (.empty, 0)) := by unfold Hid; rw [HE0.out, HR.out, List.drop_length]; rfl
 clear hv
 go_wp2_with fail
 go_ret2
 exact ⟨by rw [HE.out, errV0]; rfl, hbr⟩
def isKinB (l : List Knd) (a b : ByteArray) : Bool := (kinL l a).any fun y => decide (b = y)
theorem isKin_any (l : List Knd) (a b : ByteArray) (v : Value) (w : World) (hv : Sl kndL w v l) (ha : Sm a) (hll : l.length <= 64) (hofs : ∀ k ∈ l, k.ofs.length <= 64) :
 Calls Tryz.prog 133 #[v, .string a, .string b] w fun e w' => e = .returned (.bool (isKinB l a b)) /\ Below w.heap.size w w' := by
 have h1 := kinOf_any l a v w hv ha hll hofs
 obtain ⟨A, c, rfl, _, _⟩ := hv.form
 clear hv hofs
 go_enter Tryz.func133, Tryz.ntmps133
 go_wp2_with fail
 refine h1.mono ?_
 clear h1
 rintro e w1 ⟨u, rfl, hu, hb1⟩
 have h2 := containsStr_any (kinL l a) b u w1 hu
 obtain ⟨A1, c1, rfl, _, _⟩ := hu.form
 clear hu
 go_wp2_with fail
 refine h2.mono ?_
 clear h2
 rintro e w2 ⟨rfl, rfl⟩
 have HB : Hid (((kinL l a).any fun y => decide (b = y)) = isKinB l a b) := rfl
 generalize ((kinL l a).any fun y => decide (b = y)) = q at *
 go_wp2_with fail
 go_ret
 exact ⟨ret_bool HB.out, hb1⟩
open Go Go.RowKit Go.Sort
section
variable {P : Program} {ops : Array Oper} {md : Region.Mode} {C : World -> Prop}
theorem wp_region_midg {id : Nat} {Q : Exit -> Act -> World -> Prop} {a : Act} {w : World} {l : List Oper} (n : Nat) (om : Oper) (hom : l[n]? = some om) (hm : P.follows .mixedOrders = true) (hB : midB .any l.toArray n = true)
 (hC : C { w with drawn := w.drawn + 1 })
 (h : wpQuiet P l.toArray C (fun a' => Region.wanted om (yielded l.toArray a'.tmps) = true /\ ∀ w', C w' -> om.wp P a' w' (fun a2 w2 => wpQuiet P l.toArray (fun x => ∃ n, x = w2.drewN n) (fun a3 => ∀ w3, (∃ n, w3 = w2.drewN n) -> Q .normal a3 w3) (l.drop (n + 1)) a2) Q) (l.take n) a) : (Code.region id l.toArray true).wp P Q a w := by
 simp only [midB, Bool.and_eq_true, decide_eq_true_eq] at hB
 obtain ⟨⟨⟨⟨hsel, hn⟩, hs⟩, hc⟩, hlex⟩ := hB
 have hn' : n < l.length := by simpa using hn
 have htl : (l.take n).length = n := by simp; omega
 have hdl : (l.drop (n + 1)).length = l.toArray.size - n - 1 := by simp; omega
 have inv0 : HeadInv .any l.toArray n (Array.replicate l.toArray.size false) :=
  ⟨by simp, fun j oj _ hl => (by rw [getD_replicate_false] at hl; cases hl), fun t _ ht => getD_in (by simpa using ht) (getD_replicate_false _ _)⟩
 have H := wpAnyLQ_lex2 (C := C) (md := .any) (g := l.toArray.size - n - 1) hsel hs hc hn (l.take n) 0 _ a (fun j hj => by
  have hj' : j < n := by rw [htl] at hj; exact hj
  simp [hj']) (by simpa using htl) inv0 (by rw [htl]; exact hlex) h
 refine wp_region_any hm ?_
 have key := wpAny_of_headQ (C := C) (Q' := Q) (g := l.toArray.size - n - 1 + 1) (fun listed a' w' hw' hL => by
  have h1 := hL.1
  simp only [midRest, Bool.and_eq_true, decide_eq_true_eq] at h1
  refine ⟨fun h0 => (by rw [h1.1] at h0; cases h0), fun i hi => ?_⟩
  rw [h1.1] at hi
  obtain rfl : i = n := by simpa using hi
  have h0 : l.toArray[i]? = some om := by simpa using hom
  unfold wpOp
  simp only [h0]
  have hw := hL.2.1
  simp only [hw, if_true]
  refine .inl ?_
  have h2 := hL.2.2 w' hw'
  unfold Oper.wp at h2 ⊢
  generalize (execOp a'.eval om).run P w' = r at h2 ⊢
  have step : ∀ a2 w2, wpQuiet P l.toArray (fun x => ∃ n, x = w2.drewN n) (fun a3 => ∀ w3, (∃ n, w3 = w2.drewN n) -> Q .normal a3 w3) (l.drop (i + 1)) a2 ->
   wpAny P .any l.toArray Q (l.toArray.size - i - 1) (listed.setIfInBounds i true) a2 w2 := fun a2 w2 hq => by
   have h3 := wpAnyQ_lex (C := fun x => ∃ n, x = w2.drewN n) (md := .any) hsel (l.drop (i + 1)) (i + 1) (listed.setIfInBounds i true) a2 (fun j => by simp [List.getElem?_drop]) (by rw [hdl]; exact h1.2) hq
   rw [hdl] at h3
   exact wpAny_of_quiet (Q := fun a3 => ∀ w3, (∃ n, w3 = w2.drewN n) -> Q .normal a3 w3) (fun _ w3 hw3 h => h w3 hw3) _ _ _ _ ⟨0, rfl⟩ h3
  cases r with
  | ok nx w2 =>
   cases nx <;> simp only [Oper.upon] at h2 ⊢
   case value v => exact step _ _ h2
   case skip => exact step _ _ h2
   case defer d => exact step _ _ h2
   case enter f args =>
    refine h2.mono fun e w3 h3 => ?_
    cases e with
    | returned v => exact step _ _ h3
    | panicked c => exact h3
    | outgrown => exact h3
   case row r args => exact h2.mono fun v w3 h3 => step _ _ h3
   all_goals first | exact h2.elim | exact h2
  | halt hh w2 =>
   cases hh <;> simp only [Oper.upon] at h2 ⊢
   all_goals first | exact h2 | exact h2.elim) _ _ _ _ hC H
 rw [htl, show n + (l.toArray.size - n - 1 + 1) = l.toArray.size by simp only [List.size_toArray]; omega] at key
 exact key
theorem wp_mid_g {id : Nat} {Q : Exit -> Act -> World -> Prop} {a : Act} {w : World} {l : List Oper} (n : Nat) (om : Oper) (hom : l[n]? = some om) (hm : P.follows .mixedOrders = true) (hB : midB .any l.toArray n = true)
 (h : wpQuiet P l.toArray (fun w' => ∃ n, w' = w.drewN n) (fun a' => Region.wanted om (yielded l.toArray a'.tmps) = true /\ ∀ w', (∃ n, w' = w.drewN n) -> ∀ K : Act -> World -> Prop, (∀ a2 w2, wpQuiet P l.toArray (fun x => ∃ n, x = w2.drewN n) (fun a3 => ∀ w3, (∃ n, w3 = w2.drewN n) -> Q .normal a3 w3) (l.drop (n + 1)) a2 -> K a2 w2) -> om.wp P a' w' K Q) (l.take n) a) : (Code.region id l.toArray true).wp P Q a w :=
 wp_region_midg (C := fun w' => ∃ n, w' = w.drewN n) n om hom hm hB ⟨1, rfl⟩ (wpQuiet_mono (fun _ h => ⟨h.1, fun w' hw' => h.2 w' hw' _ fun _ _ h => h⟩) _ _ h)
end
def endB (s : Scm) (g : Grf) (id : Int) (asked : ByteArray) : Bool := match g.nodes[fpos g.nodes id]? with | some n => fhas g.nodes id && decide (0 <= kFind s.kinds n.kind) && isKinB s.kinds n.kind asked | none => false
set_option maxRecDepth 100000 in
set_option maxHeartbeats 8000000 in
theorem end_any (B bc : Nat) (vk vb vn vt mv out : Value) (fs : List Flt) (s : Scm) (g : Grf) (id : Int) (asked : ByteArray) (W1 w : World) (hW : Below W1.heap.size W1 w) (hC : Ck B w bc vk vb vn vt mv out fs)
 (hs : ScmR W1 vk vb s) (hok : CkOk s) (hg : GrfR W1 vn vt g) (hch : chain nodLt g.nodes = true) (hl : g.nodes.length <= 1000) :
 Calls Tryz.prog 119 #[.pointer (some ⟨bc, 0, none⟩), .int .i64 id, .string asked] w fun e w' => e = .returned (.bool (endB s g id asked)) /\ Below w.heap.size w w' := by
 obtain ⟨Ak, ck, rfl, _, _⟩ := hs.1.form
 obtain ⟨Ab, cb, rfl, _, _⟩ := hs.2.form
 obtain ⟨An, cn, rfl, _, _⟩ := hg.1.form
 obtain ⟨At, ct, rfl, _, _⟩ := hg.2.form
 have y0 := block_cell hC.q 0
 have y2 := block_cell hC.q 2
 have y3 := block_cell hC.q 3
 have HC := Lib.hid hC
 have HS := Lib.hid hs
 have HG := Lib.hid hg
 have hfd := find_any g _ _ w (hg.below hW) id hch hl
 have HEB : Hid (endB s g id asked = match g.nodes[fpos g.nodes id]? with | some n => fhas g.nodes id && decide (0 <= kFind s.kinds n.kind) && isKinB s.kinds n.kind asked | none => false) := rfl
 generalize endB s g id asked = eb at *
 clear hC hs hg
 go_enter Tryz.func119, Tryz.ntmps119
 go_wp2_with fail
 refine hfd.mono ?_
 clear hfd
 rintro e w2 ⟨rfl, hb2⟩
 have y0 := cell_below hb2 y0
 have y2 := cell_below hb2 y2
 have y3 := cell_below hb2 y3
 cases hq : fhas g.nodes id with
 | false =>
  have HE : Hid (eb = false) := by unfold Hid; rw [HEB.out]; split <;> simp [hq]
  clear HEB hq
  go_wp2_with fail
  go_quiet (fail)
  go_wp2_with fail
  go_ret
  exact ⟨by rw [HE.out]; rfl, below_drewN hb2 _⟩
 | true =>
  obtain ⟨n, hn⟩ : ∃ n, g.nodes[fpos g.nodes id]? = some n := by
   unfold fhas eqAt at hq
   cases hd : g.nodes[fpos g.nodes id]? with
   | none => rw [hd] at hq; simp at hq
   | some d => exact ⟨d, rfl⟩
  have HE : Hid (eb = (decide (0 <= kFind s.kinds n.kind) && isKinB s.kinds n.kind asked)) := by unfold Hid; rw [HEB.out, hn]; simp [hq]
  have hW2 : Below W1.heap.size W1 w2 := hW.trans (hb2.mono hW.size)
  have hil := (List.getElem?_eq_some_iff.1 hn).1
  generalize fpos g.nodes id = i at *
  have hil' : (i : Int) < (g.nodes.length : Int) := by omega
  have hi0 : (0 : Int) <= (i : Int) := by omega
  obtain ⟨b, o, rfl, u, hid, hkd, _, x0, x1, x2⟩ := nod_at (HG.out.below hW2).1 hn
  have hbd : Below w2.heap.size w2 w2.drew := (Below.refl _ _).drew
  have HK : Hid (∀ W, Below w2.heap.size w2 W -> Calls Tryz.prog 85 #[.slice Ak s.kinds.length ck, .string n.kind] W fun e w' => e = .returned (.int .i64 (kFind s.kinds n.kind)) /\ Below W.heap.size W w') := fun W h => kFind_any s.kinds n.kind _ W (HS.out.below (hW2.trans (h.mono hW2.size))).1
  have HI : Hid (∀ W, Below w2.heap.size w2 W -> Calls Tryz.prog 133 #[.slice Ak s.kinds.length ck, .string n.kind, .string asked] W fun e w' => e = .returned (.bool (isKinB s.kinds n.kind asked)) /\ Below W.heap.size W w') := fun W h =>
   isKin_any s.kinds n.kind asked _ W (HS.out.below (hW2.trans (h.mono hW2.size))).1 hkd (by have := hok.l; omega) hok.o
  have hkeep := And.intro (cell_below hbd y0) (And.intro (cell_below hbd y2) (cell_below hbd x1))
  generalize kFind s.kinds n.kind = z at *
  generalize isKinB s.kinds n.kind asked = ik at *
  have HK0 := HK.out w2.drew hbd
  clear hn hq HEB hid hkd hil x0 x2
  by_cases hz : z < 0
  ·have HE2 : Hid (eb = false) := by unfold Hid; rw [HE.out, decide_eq_false (by omega)]; rfl
   have hz1 : decide ((0 : Int) <= z) = false := decide_eq_false (by omega)
   go_wp2_with fail
   refine wp_mid_g 16 _ rfl rfl (by kernel_rfl) ?_
   simp only [List.take_succ_cons, List.take_zero, List.drop_succ_cons, List.drop_zero]
   repeat (go_big_quiet_step (fail))
   refine wpQuiet_nil ?_
   refine ⟨by simp [Region.wanted, yielded, go_sem], ?_⟩
   intro _ hw'
   obtain ⟨nq, hw''⟩ := hw'
   subst hw''
   intro K hK
   have hk1 := HK.out (w2.drewN nq) (below_drewN (Below.refl _ _) nq)
   go_wp2_with fail
   refine hk1.mono ?_
   clear hk1
   rintro e w3 ⟨rfl, hb3⟩
   have hb23 := (below_drewN (Below.refl w2.heap.size w2) nq).trans hb3
   refine hK _ _ ?_
   repeat (go_big_quiet_step (fail))
   refine wpQuiet_nil ?_
   intro _ hw'
   obtain ⟨nq2, hw''⟩ := hw'
   subst hw''
   clear hK
   have hbX := below_drewN hb23 nq2
   generalize w3.drewN nq2 = W3 at *
   go_wp2_with fail
   go_ret
   exact ⟨by rw [HE2.out]; rfl, hb2.trans (hbX.mono hb2.size)⟩
  have HE2 : Hid (eb = ik) := by unfold Hid; rw [HE.out, decide_eq_true (by omega)]; rfl
  have hz1 : decide ((0 : Int) <= z) = true := decide_eq_true (by omega)
  have hz2 : (0 : Int) <= z := by omega
  clear hz
  go_wp2_with fail
  go_region_held3 (fun w' => w'.cell? ⟨bc, 0, none⟩ = some (.slice Ak s.kinds.length ck) /\ w'.cell? ⟨bc, 2, none⟩ = some (.slice (some ⟨b, o, none⟩) g.nodes.length cn) /\ w'.cell? ⟨b, o + i * 3 + 1, none⟩ = some (.string n.kind))
   (first
     | exact hkeep
     | go_keep)
   (first
     | (go_at_call 85
        refine HK0.mono ?_
        rintro e w3 ⟨rfl, hb3⟩
        have hb23 := hbd.trans (hb3.mono hbd.size)
        have hkeep := And.intro (cell_below hb23 y0) (And.intro (cell_below hb23 y2) (cell_below hb23 x1))
        have HI0 := HI.out w3 hb23)
     | (go_at_call 133
        refine HI0.mono ?_
        rintro e w4 ⟨rfl, hb4⟩
        have hb24 := hb23.trans (hb4.mono hb23.size)
        have hkeep := And.intro (cell_below hb24 y0) (And.intro (cell_below hb24 y2) (cell_below hb24 x1))))
  all_goals
   go_wp2_with fail
   go_ret
   exact ⟨by rw [HE2.out]; rfl, hb2.trans (hb24.mono hb2.size)⟩
structure Key where
 f : ByteArray
 v : Val
 deriving DecidableEq
def Key.ag (k : Key) : Value := .agg #[.string k.f, .int .i64 k.v.ty, .int .i64 k.v.n, .string k.v.s]
theorem kval_same (d : Nat) (x y : Val) (w : World) : (Op.equalIn (d + 2) 31 (.agg #[.int .i64 x.ty, .int .i64 x.n, .string x.s]) (.agg #[.int .i64 y.ty, .int .i64 y.n, .string y.s])).run Tryz.prog w = .ok (decide (x = y)) w := by
 have hS : Tryz.prog.underlying 31 = some (.struct (Tryz.prog.fieldsOf 31)) := by kernel_rfl
 have hp : Tryz.prog.stoodInHeld 31 = false := by kernel_rfl
 have e1 := Tryz.underlying9
 have e2 := Tryz.underlying3
 rw [run_equalIn_agg w (d + 1) 31 _ _ hS hp]
 simp only [Program.fieldsOf, Tryz.underlying31]
 go_simp
 simp only [bytes_eq]
 cases x; cases y
 simp only [Val.mk.injEq]
 rename_i a b c a' b' c'
 by_cases h1 : a = a' <;> by_cases h2 : b = b' <;> by_cases h3 : c = c' <;> simp [h1, h2, h3]
set_option maxRecDepth 100000 in
theorem key_same (d : Nat) (x y : Key) (w : World) : (Op.equalIn (d + 3) 261 x.ag y.ag).run Tryz.prog w = .ok (decide (x = y)) w := by
 have hS : Tryz.prog.underlying 261 = some (.struct (Tryz.prog.fieldsOf 261)) := by kernel_rfl
 have hp : Tryz.prog.stoodInHeld 261 = false := by kernel_rfl
 have hv := kval_same d x.v y.v w
 have e1 := Tryz.underlying9
 have e2 := Tryz.underlying3
 have e3 := Tryz.underlying31
 have HV := Lib.hid hv
 clear hv
 unfold Key.ag
 rw [run_equalIn_agg w (d + 2) 261 _ _ hS hp]
 simp only [Program.fieldsOf, Tryz.underlying261]
 clear hS hp
 go_simp
 clear HV
 simp only [bytes_eq]
 cases x with | mk f v => cases y with | mk f' v' =>
 cases v; cases v'
 simp only [Key.mk.injEq, Val.mk.injEq]
 rename_i a b c a' b' c'
 by_cases h0 : f = f' <;> by_cases h1 : a = a' <;> by_cases h2 : b = b' <;> by_cases h3 : c = c' <;> simp [h0, h1, h2, h3]
theorem key_check (e : Bool) (x : Key) (w : World) : (Instr.checkKey e 10000 261 x.ag).run Tryz.prog w = .ok () w := by
 unfold Key.ag
 kernel_rfl
theorem key_bits (x : Key) : Instr.sameBits 10000 x.ag x.ag = true := by
 have h : ∀ a : ByteArray, (a == a) = true := fun a => by cases a; exact beq_self_eq_true (α := Array UInt8) _
 unfold Key.ag
 simp [Instr.sameBits, h]
def kvs (es : List MapEntry) : List (Value × Value) := es.map fun e => (e.key, e.val)
def keyKV (S : List Key) : List (Value × Value) := S.map fun k => (k.ag, .bool true)
def MapK (w : World) (b : Nat) (S : List Key) : Prop := ∃ es clock, w.heap[b]? = some (.map es clock) /\ kvs es.toList = keyKV S
theorem MapK.made (w : World) : MapK (w.alloc (.map #[] 0)) w.heap.size [] := ⟨#[], 0, heap_alloc_new _ _, rfl⟩
theorem MapK.keep {w w' : World} {b : Nat} {S : List Key} (h : MapK w b S) (hk : ∀ m c, w.heap[b]? = some (.map m c) -> w'.heap[b]? = some (.map m c)) : MapK w' b S := by
 obtain ⟨es, c, h1, h2⟩ := h
 exact ⟨es, c, hk _ _ h1, h2⟩
theorem key_find (k : Key) (w : World) : ∀ (es : List MapEntry) (S : List Key) (i : Nat), kvs es = keyKV S ->
 (Instr.findAsking 261 k.ag es i).run Tryz.prog w = .ok (if k ∈ S then some (i + S.findIdx (fun x => decide (k = x)), .bool true) else none) w
 | [], S, i, h => by
  cases S with
  | nil => rfl
  | cons a S => simp [kvs, keyKV] at h
 | e :: es, S, i, h => by
  cases S with
  | nil => simp [kvs, keyKV] at h
  | cons a S =>
   simp only [kvs, keyKV, List.map_cons, List.cons.injEq, Prod.mk.injEq] at h
   obtain ⟨⟨hk, hv⟩, ht⟩ := h
   have ih := key_find k w es S (i + 1) ht
   have he : (Op.equal 261 k.ag a.ag).run Tryz.prog w = .ok (decide (k = a)) w := key_same 9997 k a w
   by_cases hq : k = a
   ·subst hq
    rw [decide_eq_true rfl] at he
    unfold Instr.findAsking
    rw [Sem.run_bind, hk, he, if_pos (List.mem_cons_self ..)]
    simp [Result.andThen, hv, List.findIdx_cons]
   rw [decide_eq_false hq] at he
   have hidx : (a :: S).findIdx (fun x => decide (k = x)) = S.findIdx (fun x => decide (k = x)) + 1 := by rw [List.findIdx_cons]; simp [hq]
   have hmem : (k ∈ a :: S) = (k ∈ S) := by simp [hq]
   have harr : i + 1 + S.findIdx (fun x => decide (k = x)) = i + (S.findIdx (fun x => decide (k = x)) + 1) := by omega
   unfold Instr.findAsking
   rw [Sem.run_bind, hk, he, hidx]
   simp only [hmem]
   rw [<- harr, <- ih]
   rfl
theorem key_now (k : Key) : ∀ (es : List MapEntry) (S : List Key) (d : TypeDesc), kvs es = keyKV S -> Tryz.prog.underlying 261 = some d -> Instr.findNow d k.ag es 0 = none \/ (es = [] /\ Instr.findNow d k.ag es 0 = some none)
 | [], _, _, _, _ => .inr ⟨rfl, rfl⟩
 | e :: es, S, d, _, hd => by
  rw [Tryz.underlying261] at hd
  injection hd with hd
  subst hd
  exact .inl rfl
theorem key_findKey (k : Key) (w : World) (es : List MapEntry) (S : List Key) (h : kvs es = keyKV S) :
 (Instr.findKey 261 k.ag es).run Tryz.prog w = .ok (if k ∈ S then some (S.findIdx (fun x => decide (k = x)), .bool true) else none) w := by
 unfold Instr.findKey
 rw [Sem.run_bind, run_underlying Tryz.underlying261]
 simp only [Result.andThen]
 rcases key_now k es S _ h Tryz.underlying261 with hn | ⟨rfl, hn⟩
 ·rw [hn]
  have := key_find k w es S 0 h
  simpa using this
 rw [hn]
 cases S with
 | nil => rfl
 | cons a S => simp [kvs, keyKV] at h
theorem MapK.look {w : World} {b : Nat} {S : List Key} (h : MapK w b S) (k : Key) : (Instr.lookup 199 (.map (some b)) k.ag false).run Tryz.prog w = .ok (.bool (decide (k ∈ S))) w := by
 obtain ⟨es, c, h1, h2⟩ := h
 have hz : (zeroValue 4).run Tryz.prog w = .ok (.bool false) w := by kernel_rfl
 simp only [Instr.lookup, Sem.run_bind, run_underlying Tryz.underlying199, MapKept.run_getObj_map h1, key_check, key_findKey k w es.toList S h2, Result.andThen, Sem.run_pure]
 by_cases hm : k ∈ S
 ·simp [hm]
 simp [hm, hz]
theorem set_grown (w : World) (b : Nat) (o o' : Obj) (h : w.heap[b]? = some o) : w.grownBy { w with heap := w.heap.setIfInBounds b o' } (some b) /\ True /\ ({ w with heap := w.heap.setIfInBounds b o' } : World).heap[b]? = some o' := by
 have hb := (geB h)
 refine ⟨⟨rfl, rfl, rfl, by simp, fun k hk hne => ?_⟩, trivial, ?_⟩
 ·simp only [Array.getElem?_setIfInBounds]
  rw [if_neg (fun e => hne (by rw [e]))]
 simp [hb]
theorem MapK.put {w : World} {b : Nat} {S : List Key} (h : MapK w b S) (k : Key) :
 ∃ w', (Instr.mapUpdate 199 (.map (some b)) k.ag (.bool true)).run Tryz.prog w = .ok () w' /\ MapK w' b (if k ∈ S then S else S ++ [k]) /\ w.grownBy w' (some b) := by
 obtain ⟨es, c, h1, h2⟩ := h
 have hlen : es.toList.length = S.length := by have := congrArg List.length h2; simpa [kvs, keyKV] using this
 by_cases hm : k ∈ S
 ·have hidx : S.findIdx (fun x => decide (k = x)) < S.length := List.findIdx_lt_length_of_exists ⟨k, hm, by simp⟩
  generalize hj : S.findIdx (fun x => decide (k = x)) = j at *
  have hSj : S[j]? = some k := by
   have := List.findIdx_getElem (xs := S) (p := fun x => decide (k = x)) (w := by rw [hj]; exact hidx)
   simp only [decide_eq_true_eq] at this
   rw [List.getElem?_eq_getElem hidx]
   congr 1
   rw [this]
   congr 1
   exact hj.symm
  obtain ⟨e0, he0⟩ : ∃ e0, es[j]? = some e0 := ⟨_, Array.getElem?_eq_getElem (by simpa using (by omega : j < es.toList.length))⟩
  have hek : e0.key = k.ag /\ e0.val = .bool true := by
   have h3 := congrArg (fun l => l[j]?) h2
   simp only [kvs, keyKV, List.getElem?_map, hSj, Option.map_some] at h3
   rw [Array.getElem?_toList, he0] at h3
   simp at h3
   exact h3
  obtain ⟨g1, _, g2⟩ := set_grown w b _ (.map (es.modify j fun e => { e with key := k.ag, val := .bool true }) c) h1
  refine ⟨_, ?_, ⟨_, _, g2, ?_⟩, g1⟩
  ·simp [Instr.mapUpdate, run_underlying Tryz.underlying199, MapKept.run_getObj_map h1, key_check, key_findKey k w es.toList S h2, hm, hj, he0, hek.1, Instr.keyThatStays, key_bits, MapKept.run_setObj_map _ h1, Result.andThen]
  rw [if_pos hm, <- h2]
  apply List.ext_getElem?
  intro i
  simp only [kvs, List.getElem?_map, Array.getElem?_toList, Array.getElem?_modify]
  by_cases hi : j = i
  ·subst hi
   simp [he0, hek.1, hek.2]
  rw [if_neg hi]
 obtain ⟨g1, _, g2⟩ := set_grown w b _ (.map (es.push ⟨k.ag, .bool true, c⟩) (c + 1)) h1
 refine ⟨_, ?_, ⟨_, _, g2, ?_⟩, g1⟩
 ·simp [Instr.mapUpdate, run_underlying Tryz.underlying199, MapKept.run_getObj_map h1, key_check, key_findKey k w es.toList S h2, hm, MapKept.run_setObj_map _ h1, Result.andThen]
 rw [if_neg hm]
 simp only [kvs, keyKV, Array.toList_push, List.map_append, List.map_cons, List.map_nil] at h2 ⊢
 rw [h2]
end Go.Proofs.YtngbbefpphinjaaGreatDoor
