/- Parts: Chk2, KinI. -/
import Derived.Test.YthefofclbepkoaaMg13
import Derived.Test.YthefofclbepkoaaMg11
import Derived.Test.YthefofclbepkoaaMg03
import Derived.Test.YthefofclbepkoaaMg07
import Derived.Deep.RegionHeld3
/- Contract: a checker and a node by itself. No condition. -/
namespace Go.Proofs.Ythefofclbepkoaa
open Go Go.RowKit


/-- The fields of a node's kind; none, where there is no such kind. -/
def kfl (s : Scm) (nm : ByteArray) : List Fld := if kFind s.kinds nm < 0 then [] else (fieldsOf s.kinds nm).getD []
def aloneF (s : Scm) (n : Nod) : List Flt := if kFind s.kinds n.kind < 0 then [⟨1, n.id, n.kind⟩] else recF (kfl s n.kind) n
/-- What a checker needs of its data. -/
structure CkOk (s : Scm) : Prop where
  l : s.kinds.length ≤ 12
  o : ∀ k ∈ s.kinds, k.ofs.length ≤ 64
  f : ∀ k ∈ s.kinds, k.fields.length ≤ 8
def AloneR (B bc : Nat) (vk vb vn vt mv : Value) (fs : List Flt) (s : Scm) (n : Nod) (w : World) (e : Ending) (w' : World) : Prop :=
  ∃ v, e = .returned (.tuple #[v, .bool (decide (0 ≤ kFind s.kinds n.kind))]) ∧ Own w' B 101 4 v (kfl s n.kind).length ((kfl s n.kind).flatMap Fld.enc) ∧ (∀ x ∈ kfl s n.kind, x.ok) ∧ Told1 B w w' bc vk vb vn vt mv (fs ++ aloneF s n)
set_option maxRecDepth 100000 in
set_option maxHeartbeats 8000000 in
theorem alone_any (B bc : Nat) (vk vb vn vt mv out : Value) (fs : List Flt) (s : Scm) (n : Nod) (u : Value) (W1 w : World) (hBW : B = W1.heap.size) (hW : Below W1.heap.size W1 w) (hC : Ck B w bc vk vb vn vt mv out fs)
    (hs : ScmR W1 vk vb s) (hok : CkOk s) (hu : Sl prpL W1 u n.props) (hid : I64 n.id) (hkd : Sm n.kind) (hch : chain prpLt n.props = true) (hpl : n.props.length ≤ 1000) (hfl : (kfl s n.kind).length ≤ 1000) (hl : fs.length ≤ 90000) :
    Calls Try.prog 42 #[.pointer (some ⟨bc, 0, none⟩), .agg #[.int .i64 n.id, .string n.kind, u]] w (AloneR B bc vk vb vn vt mv fs s n w) := by
  obtain ⟨Au, cu, rfl, _, _⟩ := hu.form
  obtain ⟨Ak, ck, rfl, _, _⟩ := hs.1.form
  obtain ⟨Ab, cb, rfl, _, _⟩ := hs.2.form
  have hb0 : Below w.heap.size w (w.alloc (.cells #[.int .i64 n.id, .string n.kind, .slice Au n.props.length cu] 46)) := (Below.refl _ _).alloc (Nat.le_refl _) _
  have g0 := heap_alloc_new w (.cells #[.int .i64 n.id, .string n.kind, .slice Au n.props.length cu] 46)
  generalize hW0 : w.alloc (.cells #[.int .i64 n.id, .string n.kind, .slice Au n.props.length cu] 46) = W0 at *
  have hwB : B ≤ w.heap.size := by rw [hBW]; exact hW.size
  have hw0 := hb0.size
  have hW01 : Below W1.heap.size W1 W0 := hW.trans (hb0.mono hW.size)
  have hC0 := hC.below hb0
  have y0 := block_cell hC0.q 0
  have x0 := block_cell g0 0
  have x1 := block_cell g0 1
  have x2 := block_cell g0 2
  have HC0 := Lib.hid hC0
  have HG0 := Lib.hid g0
  have HS := Lib.hid hs
  have HU := Lib.hid hu
  have HK : Hid (∀ W, Below W1.heap.size W1 W → Calls Try.prog 78 #[.slice Ak s.kinds.length ck, .string n.kind] W fun e w' => e = .returned (.int .i64 (kFind s.kinds n.kind)) ∧ Below W.heap.size W w') := fun W h => kFind_any s.kinds n.kind _ W (HS.out.below h).1
  have HFO : Hid (∀ W, Below W1.heap.size W1 W → Calls Try.prog 79 #[.slice Ak s.kinds.length ck, .string n.kind] W (FieldsO s.kinds n.kind W)) := fun W h => fieldsOfO_any s.kinds n.kind _ W (HS.out.below h).1 hkd (by have := hok.l; omega) hok.o hok.f
  have HAF : Hid (aloneF s n = if kFind s.kinds n.kind < 0 then [⟨1, n.id, n.kind⟩] else recF (kfl s n.kind) n) := rfl
  have HKF : Hid (kfl s n.kind = if kFind s.kinds n.kind < 0 then [] else (fieldsOf s.kinds n.kind).getD []) := rfl
  have hT0 : Told1 B w W0 bc (.slice Ak s.kinds.length ck) (.slice Ab s.bonds.length cb) vn vt mv fs := Told1.first hb0 hwB ⟨⟨_, hC0⟩, Below.refl _ _, fun _ _ _ => Same.refl _ _, fun _ _ _ h => h, Nat.le_refl _⟩
  have HT0 := Lib.hid hT0
  have HKD := Lib.hid hkd
  generalize hkf : kFind s.kinds n.kind = z at *
  have HKZ := Lib.hid hkf
  have HBW := Lib.hid hBW
  clear hC hs hu hC0 g0 hok hT0 hkd hkf hBW
  go_enter Try.func42, Try.ntmps42
  go_wp2_with fail
  clear hW0
  refine wp_mid_k 7 _ rfl rfl (by kernel_rfl) (by kernel_rfl) ?_
  simp only [List.take_succ_cons, List.take_zero, List.drop_succ_cons, List.drop_zero]
  repeat (go_big_quiet_step (fail))
  refine wpQuiet_nil ?_
  intro _ hw'
  obtain ⟨nq, hw''⟩ := hw'
  subst hw''
  intro K hK
  have hk1 := HK.out (W0.drewN nq) (hW01.trans (below_drewN (Below.refl _ _) nq))
  go_wp2_with fail
  refine hk1.mono ?_
  clear hk1
  rintro e w2 ⟨rfl, hb2⟩
  have hb02 := (below_drewN (Below.refl W0.heap.size W0) nq).trans hb2
  refine hK _ _ ?_
  repeat (go_big_quiet_step (fail))
  refine wpQuiet_nil ?_
  intro _ hw'
  obtain ⟨nq2, hw''⟩ := hw'
  subst hw''
  clear hK
  have hbW := below_drewN hb02 nq2
  generalize w2.drewN nq2 = W2 at *
  have hB2 : B ≤ W2.heap.size := by have := hbW.size; omega
  have hW12 : Below W1.heap.size W1 W2 := hW01.trans (hbW.mono hW01.size)
  have hB0 : B ≤ W0.heap.size := by omega
  have HT2 := Lib.hid (HT0.out.last hB0 hbW)
  have HC2 := Lib.hid (HC0.out.below hbW)
  have hg2 := (hbW.block _ (Array.getElem?_eq_some_iff.1 HG0.out).1).trans HG0.out
  have y0 := block_cell HC2.out.q 0
  have x0 := block_cell hg2 0
  have x1 := block_cell hg2 1
  have x2 := block_cell hg2 2
  have HG2 := Lib.hid hg2
  clear hb2 hb02 hbW HT0 HC0 HG0 hg2 HK hW01
  by_cases hz : z < 0
  · have hz' : decide (z < 0) = true := decide_eq_true hz
    have HA : Hid (aloneF s n = [⟨1, n.id, n.kind⟩] ∧ kfl s n.kind = []) := ⟨by rw [HAF.out, if_pos hz], by rw [HKF.out, if_pos hz]⟩
    have htell := tell_any B bc _ _ vn vt mv out fs ⟨1, n.id, n.kind⟩ W2 hB2 HC2.out ⟨⟨by show (-9223372036854775808 : Int) ≤ 1; omega, by show (1 : Int) ≤ 9223372036854775807; omega⟩, hid, HKD.out⟩ (by omega)
    have HZ : Hid (decide (0 ≤ kFind s.kinds n.kind) = false) := by unfold Hid; rw [HKZ.out]; exact decide_eq_false (by omega)
    clear HAF HKF HC2 HFO
    go_wp2_with fail
    refine htell.mono ?_
    clear htell
    rintro e w5 ⟨rfl, ht5⟩
    have HT5 := Lib.hid (HT2.out.trans ht5)
    clear ht5
    go_wp2_with fail
    go_ret2
    exact ⟨.slice none 0 0, by rw [HZ.out]; rfl, by rw [HA.out.2]; exact Own.nil _ _ _ _, by rw [HA.out.2]; exact (fun x hx => by cases hx), by rw [HA.out.1]; exact HT5.out⟩
  · have hz' : decide (z < 0) = false := decide_eq_false hz
    have HA : Hid (aloneF s n = recF (kfl s n.kind) n ∧ kfl s n.kind = (fieldsOf s.kinds n.kind).getD []) := ⟨by rw [HAF.out, if_neg hz], by rw [HKF.out, if_neg hz]⟩
    have HZ : Hid (decide (0 ≤ kFind s.kinds n.kind) = true) := by unfold Hid; rw [HKZ.out]; exact decide_eq_true (by omega)
    have hz2 : (0 : Int) ≤ z := by omega
    clear HAF HKF hz
    go_wp2_with fail
    refine wp_mid_k 7 _ rfl rfl (by kernel_rfl) (by kernel_rfl) ?_
    simp only [List.take_succ_cons, List.take_zero, List.drop_succ_cons, List.drop_zero]
    repeat (go_big_quiet_step (fail))
    refine wpQuiet_nil ?_
    intro _ hw'
    obtain ⟨nq, hw''⟩ := hw'
    subst hw''
    intro K hK
    have hf1 := HFO.out (W2.drewN nq) (hW12.trans (below_drewN (Below.refl _ _) nq))
    generalize (fieldsOf s.kinds n.kind).isSome = iss at *
    go_wp2_with fail
    refine hf1.mono ?_
    clear hf1 HFO
    rintro e w3 ⟨v3, rfl, ⟨ho3, hok3⟩, hb3⟩
    rw [← HA.out.2] at ho3 hok3
    have ho3 := ho3.mono (B' := B) hB2
    obtain ⟨A3, c3, rfl, _, _⟩ := ho3.form
    have hb23 := (below_drewN (Below.refl W2.heap.size W2) nq).trans hb3
    refine hK _ _ ?_
    repeat (go_big_quiet_step (fail))
    refine wpQuiet_nil ?_
    intro _ hw'
    obtain ⟨nq2, hw''⟩ := hw'
    subst hw''
    clear hK
    have hbX := below_drewN hb23 nq2
    have ho4 := ho3.drewN nq2
    generalize w3.drewN nq2 = W3 at *
    have hB3 : B ≤ W3.heap.size := by have := hbX.size; omega
    have hW13 : Below W1.heap.size W1 W3 := hW12.trans (hbX.mono hW12.size)
    have HT3 := Lib.hid (HT2.out.last hB2 hbX)
    have hc3 := HC2.out.below hbX
    have hg3 := (hbX.block _ (Array.getElem?_eq_some_iff.1 HG2.out).1).trans HG2.out
    have x0 := block_cell hg3 0
    have x1 := block_cell hg3 1
    have x2 := block_cell hg3 2
    have hrec := record_any B bc _ _ vn vt mv out fs n (kfl s n.kind) _ _ W1 W3 HBW.out hW13 hc3 HU.out hid hch hpl ho4 hok3 hfl hl
    have HO4 := Lib.hid ho4
    have HOK := Lib.hid hok3
    generalize hfl0 : kfl s n.kind = fl at *
    have HFL := Lib.hid hfl0.symm
    clear hfl0
    clear hb3 hb23 hbX ho3 hok3 ho4 hc3 hg3 y0 HC2 HG2 HT2
    go_wp2_with fail
    refine hrec.mono ?_
    clear hrec
    rintro e w5 ⟨rfl, ht5⟩
    have HT5 := Lib.hid (HT3.out.trans ht5)
    have HO5 := Lib.hid (HO4.out.same (ht5.s 101 (by decide) (by decide)))
    clear ht5
    go_wp2_with fail
    go_ret2
    exact ⟨.slice A3 fl.length c3, by rw [HZ.out]; rfl, by rw [← HFL.out]; exact HO5.out, by rw [← HFL.out]; exact HOK.out, by rw [HA.out.1]; exact HT5.out⟩
end Go.Proofs.Ythefofclbepkoaa

/- Contract: kind.one: what is wrong with one kind, behind those that are right. -/
namespace Go.Proofs.Ythefofclbepkoaa
open Go Go.RowKit

theorem Sl.take {D : Type} {L : Lay D} {w : World} {A : Option Addr} {n c : Nat} {l : List D} (h : Sl L w (.slice A n c) l) {k : Nat} (hk : k ≤ l.length) : Sl L w (.slice A k c) (l.take k) := by
  obtain ⟨A', c', hv, h1, h2, h3⟩ := h
  injection hv with hA hn hc
  subst hA; subst hc
  have hl : (l.take k).length = k := by simp; omega
  refine ⟨A, c, by rw [hl], by rw [hl]; omega, h2, fun i d hi => ?_⟩
  rw [List.getElem?_take] at hi
  split at hi
  · exact h3 i d hi
  · cases hi
theorem errV7 : errV 7 = .iface 82 (.int .i64 7) := by simp [errV]
theorem errV4 : errV 4 = .iface 82 (.int .i64 4) := by simp [errV]
theorem errV5 : errV 5 = .iface 82 (.int .i64 5) := by simp [errV]
theorem errV1 : errV 1 = .iface 82 (.int .i64 1) := by simp [errV]
theorem errV0 : errV 0 = .nilIface := by simp [errV]
theorem ofsE_step {l : List Knd} {r : List ByteArray} {j : Nat} {s : ByteArray} (hs : r[j]? = some s) {E : Int} (h : E = ofsE l (r.take j) (r.drop j)) :
    E = if kFind l s < 0 then 5 else if (r.take j).any (fun y => decide (s = y)) then 7 else ofsE l (r.take (j + 1)) (r.drop (j + 1)) := by
  rw [h, drop_cons hs, ofsE, take_step hs]

set_option maxRecDepth 100000 in
set_option maxHeartbeats 8000000 in
theorem one_any (l : List Knd) (k : Knd) (v u1 u2 : Value) (w : World) (hv : Sl kndL w v l) (h1 : Sl strL w u1 k.ofs) (h2 : Sl fldL w u2 k.fields) (hnm : Sm k.name) (hl : l.length ≤ 12) (hofs : ∀ x ∈ l, x.ofs.length ≤ 4) (hfl : ∀ x ∈ l, x.fields.length ≤ 8) :
    Calls Try.prog 124 #[v, .agg #[.string k.name, u1, u2]] w fun e w' => e = .returned (errV (oneE l k)) ∧ Below w.heap.size w w' := by
  obtain ⟨A, c, rfl, _, hcA⟩ := hv.form
  obtain ⟨A1, c1, rfl, _, hc1⟩ := h1.form
  obtain ⟨A2, c2, rfl, _, hc2⟩ := h2.form
  unfold maxLen at hc1 hc2 hcA
  obtain ⟨z0, z1, z2⟩ := cell_box3 w (.string k.name) (.slice A1 k.ofs.length c1) (.slice A2 k.fields.length c2) 105
  have hb0 : Below w.heap.size w (w.alloc (.cells #[.string k.name, .slice A1 k.ofs.length c1, .slice A2 k.fields.length c2] 105)) := (Below.refl _ _).alloc (Nat.le_refl _) _
  have HOF := Lib.hid hofs
  have HFL := Lib.hid hfl
  clear hofs hfl
  go_enter Try.func124, Try.ntmps124
  go_wp2_with fail
  refine (name_any k.name _ hnm).mono ?_
  rintro e w1 ⟨rfl, hb1⟩
  have hB1 := hb0.trans (hb1.mono hb0.size)
  have p0 := cell_below hb1 z0
  have p1 := cell_below hb1 z1
  have p2 := cell_below hb1 z2
  generalize w.alloc (.cells #[.string k.name, .slice A1 k.ofs.length c1, .slice A2 k.fields.length c2] 105) = W at *
  clear z0 z1 z2
  by_cases hn : nameE k.name = 0
  case neg =>
    have HE : Hid (errV (oneE l k) = .iface 82 (.int .i64 (nameE k.name))) := by unfold Hid oneE; rw [if_neg hn, errV_some hn]
    rw [errV_some hn]
    clear hn
    go_wp2_with fail
    go_ret
    exact ⟨by rw [HE.out]; rfl, hB1⟩
  have HE1 : Hid (oneE l k = if 0 ≤ kFind l k.name then 7 else if 4 < k.ofs.length then 4 else if 8 < k.fields.length then 4 else if ofsE l [] k.ofs = 0 then if fldsE none k.fields = 0 then sumE (fieldsOf (l ++ [k]) k.name) else fldsE none k.fields else ofsE l [] k.ofs) := by
    unfold Hid oneE; rw [if_pos hn]
  rw [errV_zero hn]
  clear hn
  go_wp2_with fail
  refine (kFind_any l k.name _ _ (hv.below hB1)).mono ?_
  rintro e w2 ⟨rfl, hb2⟩
  have hB2 := hB1.trans (hb2.mono hB1.size)
  have q0 := cell_below hb2 p0
  have q1 := cell_below hb2 p1
  have q2 := cell_below hb2 p2
  clear p0 p1 p2 hb1 hB1
  generalize kFind l k.name = z at *
  by_cases hz : 0 ≤ z
  case pos =>
    have HE : Hid (errV (oneE l k) = .iface 82 (.int .i64 7)) := by unfold Hid; rw [HE1.out, if_pos hz, errV7]
    clear HE1
    go_wp2_with fail
    go_ret
    exact ⟨by rw [HE.out]; rfl, hB2⟩
  have hz' : z < 0 := by omega
  have HE2 : Hid (oneE l k = if 4 < k.ofs.length then 4 else if 8 < k.fields.length then 4 else if ofsE l [] k.ofs = 0 then if fldsE none k.fields = 0 then sumE (fieldsOf (l ++ [k]) k.name) else fldsE none k.fields else ofsE l [] k.ofs) := by
    unfold Hid; rw [HE1.out, if_neg hz]
  clear HE1 hz
  by_cases h4 : 4 < k.ofs.length
  case pos =>
    have HE : Hid (errV (oneE l k) = .iface 82 (.int .i64 4)) := by unfold Hid; rw [HE2.out, if_pos h4, errV4]
    have h4' : (4 : Int) < (k.ofs.length : Int) := by omega
    clear HE2
    go_wp2_with fail
    go_ret
    exact ⟨by rw [HE.out]; rfl, hB2⟩
  have h4' : (k.ofs.length : Int) ≤ 4 := by omega
  by_cases h8 : 8 < k.fields.length
  case pos =>
    have HE : Hid (errV (oneE l k) = .iface 82 (.int .i64 4)) := by unfold Hid; rw [HE2.out, if_neg h4, if_pos h8, errV4]
    have h8' : (8 : Int) < (k.fields.length : Int) := by omega
    clear HE2
    go_wp2_with fail
    go_ret
    exact ⟨by rw [HE.out]; rfl, hB2⟩
  have h8' : (k.fields.length : Int) ≤ 8 := by omega
  have HE3 : Hid (oneE l k = if ofsE l [] k.ofs = 0 then if fldsE none k.fields = 0 then sumE (fieldsOf (l ++ [k]) k.name) else fldsE none k.fields else ofsE l [] k.ofs) := by
    unfold Hid; rw [HE2.out, if_neg h4, if_neg h8]
  clear HE2
  go_wp2_with fail
  go_loopw [39] (fun i wr => ∃ j : Nat, j ≤ k.ofs.length ∧ i = .int .i64 j ∧ Below w2.heap.size w2 wr ∧ Hid (ofsE l [] k.ofs = ofsE l (k.ofs.take j) (k.ofs.drop j))) (fun i _ => k.ofs.length - (intOf i).toNat)
  case atStart => exact ⟨0, Nat.zero_le _, rfl, Below.refl _ _, rfl⟩
  case round =>
    obtain ⟨j, hj, rfl, hbr, HR⟩ := hrel
    have hBr := hB2.trans (hbr.mono hB2.size)
    have r0 := cell_below hbr q0
    have r1 := cell_below hbr q1
    have r2 := cell_below hbr q2
    clear q0 q1 q2 hb2 hB2
    by_cases hlt : j < k.ofs.length
    · obtain ⟨s, hs⟩ : ∃ s, k.ofs[j]? = some s := ⟨_, List.getElem?_eq_getElem hlt⟩
      obtain ⟨bs, os, rfl, hss, x0⟩ := str_at (h1.below hBr) hs
      have HS := Lib.hid (ofsE_step hs HR.out)
      have hlt' : (j : Int) < (k.ofs.length : Int) := by omega
      have htk := h1.take hj
      clear hs HR
      go_wp2_with fail
      refine (kFind_any l s _ _ (hv.below hBr)).mono ?_
      rintro e w3 ⟨rfl, hb3⟩
      have hB3 := hBr.trans (hb3.mono hBr.size)
      have s0 := cell_below hb3 r0
      have s1 := cell_below hb3 r1
      have s2 := cell_below hb3 r2
      clear r0 r1 r2 x0
      generalize kFind l s = z2 at *
      by_cases hz2 : z2 < 0
      · have HE : Hid (errV (oneE l k) = .iface 82 (.int .i64 5)) := by unfold Hid; rw [HE3.out, HS.out, if_pos hz2, if_neg (by omega), errV5]
        clear HE3 HS
        go_wp2_with fail
        go_ret
        exact ⟨by rw [HE.out]; rfl, hB3⟩
      · have hz3 : 0 ≤ z2 := by omega
        have HS2 : Hid (ofsE l [] k.ofs = if (k.ofs.take j).any (fun y => decide (s = y)) then 7 else ofsE l (k.ofs.take (j + 1)) (k.ofs.drop (j + 1))) := by unfold Hid; rw [HS.out, if_neg hz2]
        have hj' : (j : Int) ≤ (c1 : Int) := by omega
        clear HS hz2
        go_wp2_with fail
        refine (containsStr_any _ s _ _ (htk.below hB3)).mono ?_
        rintro e w4 ⟨rfl, rfl⟩
        cases hany : (k.ofs.take j).any (fun y => decide (s = y)) with
        | true =>
          have HE : Hid (errV (oneE l k) = .iface 82 (.int .i64 7)) := by unfold Hid; rw [HE3.out, HS2.out, hany, if_pos rfl, if_neg (by omega), errV7]
          clear HE3 HS2 hany
          go_wp2_with fail
          go_ret
          exact ⟨by rw [HE.out]; rfl, hB3⟩
        | false =>
          have HN : Hid (ofsE l [] k.ofs = ofsE l (k.ofs.take (j + 1)) (k.ofs.drop (j + 1))) := by unfold Hid; rw [HS2.out, hany]; simp
          clear HE3 HS2 hany
          go_wp2_with fail
          go_roundw
          case rel => exact ⟨j + 1, by omega, by go_num, hbr.trans (hb3.mono hbr.size), HN⟩
          case measure => simp [intOf]; omega
    · obtain rfl : j = k.ofs.length := by omega
      have HO : Hid (ofsE l [] k.ofs = 0) := by unfold Hid; rw [HR.out, List.drop_length]; rfl
      have HE4 : Hid (oneE l k = if fldsE none k.fields = 0 then sumE (fieldsOf (l ++ [k]) k.name) else fldsE none k.fields) := by unfold Hid; rw [HE3.out, if_pos HO.out]
      clear HE3 HO HR
      go_wp2_with fail
      refine (flds_any k.fields _ _ (h2.below hBr)).mono ?_
      rintro e w3 ⟨rfl, hb3⟩
      have hB3 := hBr.trans (hb3.mono hBr.size)
      have s0 := cell_below hb3 r0
      have s1 := cell_below hb3 r1
      have s2 := cell_below hb3 r2
      clear r0 r1 r2
      by_cases hf : fldsE none k.fields = 0
      case neg =>
        have HE : Hid (errV (oneE l k) = .iface 82 (.int .i64 (fldsE none k.fields))) := by unfold Hid; rw [HE4.out, if_neg hf, errV_some hf]
        rw [errV_some hf]
        clear hf HE4
        go_wp2_with fail
        go_ret
        exact ⟨by rw [HE.out]; rfl, hB3⟩
      have HE5 : Hid (oneE l k = sumE (fieldsOf (l ++ [k]) k.name)) := by unfold Hid; rw [HE4.out, if_pos hf]
      rw [errV_zero hf]
      clear hf HE4
      have hv3 := hv.below hB3
      have hbs : w.heap.size < w3.heap.size := World.block_lt_of_cell? _ _ s0
      obtain ⟨i0, ei, ez, ez1, ez2⟩ := info_parts clone_knds_info
      go_wp2_with fail
      go_region_held3 (fun w' => w'.cell? ⟨w.heap.size, 0, none⟩ = some (.string k.name) ∧ w'.cell? ⟨w.heap.size, 1, none⟩ = some (.slice A1 k.ofs.length c1) ∧ w'.cell? ⟨w.heap.size, 2, none⟩ = some (.slice A2 k.fields.length c2))
        (first
          | exact hkeep
          | go_keep)
        (first
          | (go_at_call 136
             refine (clone_knds (l := l) (hv3.below (Below.refl _ _).drew) (by omega)).mono ?_
             rintro e w4 ⟨cv, xs, rfl, hown, hrow, hb4⟩
             have hkeep := And.intro (cell_below hb4 s0) (And.intro (cell_below hb4 s1) (cell_below hb4 s2))
             have hordA : True := trivial)
          | (go_at_call 136
             refine (clone_knds (l := l) (hv3.below ((Below.refl _ _).drew.alloc (Nat.le_refl _) _)) (by omega)).mono ?_
             rintro e w4 ⟨cv, xs, rfl, hown, hrow, hb4⟩
             have hkeep := And.intro (cell_below hb4 (cell_below ((Below.refl _ _).alloc (Nat.le_refl _) _) s0)) (And.intro (cell_below hb4 (cell_below ((Below.refl _ _).alloc (Nat.le_refl _) _) s1)) (cell_below hb4 (cell_below ((Below.refl _ _).alloc (Nat.le_refl _) _) s2)))
             have hordB : True := trivial)
          | (have _t := hordA
             refine wp_append_q _ (.tmp 66) (.tmp 68) 65 rfl w3.heap.size 105 i0 (.agg #[.string .empty, .slice none 0 0, .slice none 0 0]) 3 64 Try.underlying65 ei ez ez1 ez2 rfl (by decide) cv l.length xs rfl (hown.alloc _) (some ⟨w4.heap.size, 0, none⟩) 1 1 [.string k.name, .slice A1 k.ofs.length c1, .slice A2 k.fields.length c2] rfl rfl
               (fun _ => ⟨_, rfl, fun j u hj => by rw [addr_add, Nat.zero_add, World.cell?_alloc_at _ _ _ _ rfl]; simpa using hj⟩) (fun u hu => by simp at hu; rcases hu with rfl | rfl | rfl <;> rfl) (by unfold maxLen; omega) (by omega) (by have := hb4.size; simp at this ⊢; omega) ?_
             intro v7 w7 hown7 hg7 hat7
             have hbX := (hb4.alloc hb4.size _).grown hg7 (by have := hb4.size; simp at this ⊢; omega) (fun kk e => (hown.lt kk e).1)
             have hb7 : Below w3.heap.size w3 w7 := (Below.refl _ _).drew.trans hbX
             have hrow7 := hrow.below hbX
             have hkeep := And.intro (cell_below hb7 s0) (And.intro (cell_below hb7 s1) (cell_below hb7 s2))
             clear hordA)
          | (have _t := hordB
             refine wp_append_q _ (.tmp 66) (.tmp 68) 65 rfl w3.heap.size 105 i0 (.agg #[.string .empty, .slice none 0 0, .slice none 0 0]) 3 64 Try.underlying65 ei ez ez1 ez2 rfl (by decide) cv l.length xs rfl (hown.mono (by simp)) (some ⟨w3.heap.size, 0, none⟩) 1 1 [.string k.name, .slice A1 k.ofs.length c1, .slice A2 k.fields.length c2] rfl rfl
               (fun _ => ⟨_, rfl, fun j u hj => by rw [addr_add, Nat.zero_add]; exact cell_below hb4 (by show (w3.alloc _).cell? _ = _; rw [World.cell?_alloc_at _ _ _ _ rfl]; simpa using hj)⟩) (fun u hu => by simp at hu; rcases hu with rfl | rfl | rfl <;> rfl) (by unfold maxLen; omega) (by omega) (by have := hb4.size; simp at this ⊢; omega) ?_
             intro v7 w7 hown7 hg7 hat7
             have hbX := hb4.grown hg7 hb4.size (fun kk e => (hown.lt kk e).1)
             have hb7 : Below w3.heap.size w3 w7 := ((Below.refl _ _).alloc (Nat.le_refl _) _).drew.trans (hbX.mono (by simp))
             have hrow7 := hrow.below hbX
             have hkeep := And.intro (cell_below hb7 s0) (And.intro (cell_below hb7 s1) (cell_below hb7 s2))
             clear hordB))
      all_goals
        have hB7 := hB3.trans (hb7.mono hB3.size)
        have hsl7 : Sl kndL w7 v7 (l ++ [k]) := by
          have hr7 : Row kndL w7 (l ++ [k]) (xs ++ [.string k.name, .slice A1 k.ofs.length c1, .slice A2 k.fields.length c2]) :=
            hrow7.snoc ⟨_, _, rfl, hnm, h1.below hB7, h2.below hB7⟩
          exact Own.row (L := kndL) (by rw [List.length_append]; exact hown7) hr7
        obtain ⟨t0, t1, t2⟩ := hkeep
        have hfo := fieldsOf_any (l ++ [k]) k.name v7 w7 hsl7 hnm (by simp; omega) (fun x hx => by
            rcases List.mem_append.1 hx with h | h
            · have := HOF.out x h; omega
            · simp at h; subst h; omega) (fun x hx => by
            rcases List.mem_append.1 hx with h | h
            · exact HFL.out x h
            · simp at h; subst h; omega)
        clear hg7 hat7 hown7 hown hrow hrow7 hbX
        generalize l ++ [k] = l7 at *
        obtain ⟨A7, c7, rfl, _, _⟩ := hsl7.form
        clear hsl7
        go_wp2_with fail
        refine hfo.mono ?_
        clear hfo
        rintro e w8 ⟨fv, rfl, hfs, hb8⟩
        have hB8 := hB7.trans (hb8.mono hB7.size)
        obtain ⟨Af, cf, rfl, _, _⟩ := hfs.form
        have hf2 := hfs
        cases hF : fieldsOf l7 k.name with
        | none =>
          have HE : Hid (errV (oneE l k) = .iface 82 (.int .i64 7)) := by unfold Hid; rw [HE5.out, hF]; simp [sumE, errV]
          clear HE5 hF hfs hf2
          simp only [Option.isSome, Option.getD]
          go_wp2_with fail
          go_ret
          exact ⟨by rw [HE.out]; rfl, hB8⟩
        | some fs =>
          simp only [Option.isSome, Option.getD]
          by_cases h9 : 8 < fs.length
          · have HE : Hid (errV (oneE l k) = .iface 82 (.int .i64 4)) := by unfold Hid; rw [HE5.out, hF]; simp [sumE, h9, errV]
            have h9' : (8 : Int) < (fs.length : Int) := by omega
            clear HE5 hF hfs hf2
            go_wp2_with fail
            go_ret
            exact ⟨by rw [HE.out]; rfl, hB8⟩
          · have HE : Hid (errV (oneE l k) = .nilIface) := by unfold Hid; rw [HE5.out, hF]; simp [sumE, h9, errV]
            have h9' : (fs.length : Int) ≤ 8 := by omega
            clear HE5 hF hfs hf2
            go_wp2_with fail
            go_ret
            exact ⟨by rw [HE.out]; rfl, hB8⟩
end Go.Proofs.Ythefofclbepkoaa
