/- Parts: KinH, KinI, KinJ, DelA. -/
import Derived.Test.YtfeccicogcnhcaaGreatDoorMg05
import Derived.Test.YtfeccicogcnhcaaGreatDoorMg04
import Derived.Test.YtfeccicogcnhcaaGreatDoorMg03
import Derived.Deep.RegionHeld3
import Derived.Test.YtfeccicogcnhcaaGreatDoorMg01
import Derived.Maps.AppendAt
/- Contract: kind.FieldsOf: a kind's fields, all of its kin's. -/
namespace Go.Proofs.YtfeccicogcnhcaaGreatDoor
open Go Go.RowKit

def FieldsR (l : List Knd) (name : ByteArray) (w : World) (e : Ending) (w' : World) : Prop :=
  ∃ u, e = .returned (.tuple #[u, .bool (fieldsOf l name).isSome]) ∧ Sl fldL w' u ((fieldsOf l name).getD []) ∧ Below w.heap.size w w'
/-- The same, the fields the call's own. -/
def FieldsO (l : List Knd) (name : ByteArray) (w : World) (e : Ending) (w' : World) : Prop :=
  ∃ u, e = .returned (.tuple #[u, .bool (fieldsOf l name).isSome]) ∧ (Own w' w.heap.size 61 4 u ((fieldsOf l name).getD []).length (((fieldsOf l name).getD []).flatMap Fld.enc) ∧ ∀ x ∈ (fieldsOf l name).getD [], x.ok) ∧ Below w.heap.size w w'
theorem kin_known {l : List Knd} {name : ByteArray} : ∀ s ∈ kinL l name, ∃ (i : Nat) (k : Knd), kFind l s = i ∧ l[i]? = some k ∧ fldsFor l s = k.fields := by
  intro s hs
  obtain ⟨⟨k, hk, rfl⟩, _⟩ := mem_kinL.1 hs
  obtain ⟨i, x, h1, h2, h3, _⟩ := kFind_pos (kFind_mem hk)
  refine ⟨i, x, h1, h2, ?_⟩
  unfold fldsFor
  rw [find_of_kFind h1 h2]
theorem kinL_len (l : List Knd) (name : ByteArray) : (kinL l name).length ≤ l.length := by
  unfold kinL
  rw [List.length_map]
  exact List.length_filter_le _ _
theorem fold_step {f : Fld} {rest acc : List Fld} {r : Option (List Fld)} (h : r = (f :: rest).foldlM putF acc) : (∀ acc', putF acc f = some acc' → r = rest.foldlM putF acc') ∧ (putF acc f = none → r = none) := by
  rw [h, List.foldlM_cons]
  exact ⟨fun acc' e => by rw [e]; rfl, fun e => by rw [e]; rfl⟩
theorem put_new {acc : List Fld} {f : Fld} (h : eqAt (fldC f.name) acc (lowI (fldC f.name) acc) = false) : putF acc f = some (acc.take (lowI (fldC f.name) acc) ++ f :: acc.drop (lowI (fldC f.name) acc)) := by
  unfold putF; rw [h]; simp
theorem put_old {acc : List Fld} {f q : Fld} (h : eqAt (fldC f.name) acc (lowI (fldC f.name) acc) = true) (hq : acc[lowI (fldC f.name) acc]? = some q) : putF acc f = if q = f then some acc else none := by
  unfold putF; rw [h, hq]; simp
theorem eqAt_some {D : Type} {c : D → Int} {l : List D} {p : Nat} (h : eqAt c l p = true) : ∃ d, l[p]? = some d := by
  unfold eqAt at h
  cases hd : l[p]? with
  | none => rw [hd] at h; simp at h
  | some d => exact ⟨d, rfl⟩

set_option maxRecDepth 100000 in
set_option maxHeartbeats 8000000 in
theorem fieldsOfO_any (l : List Knd) (name : ByteArray) (v : Value) (w : World) (hv : Sl kndL w v l) (hnm : Sm name) (hll : l.length ≤ 13) (hofs : ∀ k ∈ l, k.ofs.length ≤ 64) (hfl : ∀ k ∈ l, k.fields.length ≤ 8) :
    Calls Tryz.prog 68 #[v, .string name] w (FieldsO l name w) := by
  obtain ⟨A, c, rfl, _, _⟩ := hv.form
  have HV := Lib.hid hv
  have HFL := Lib.hid hfl
  have hkc := kinOf_any l name _ w hv hnm (by omega) hofs
  have HM : Hid (∀ s ∈ kinL l name, ∃ (i : Nat) (k : Knd), kFind l s = i ∧ l[i]? = some k ∧ fldsFor l s = k.fields) := kin_known
  have HF : Hid (fieldsOf l name = (((kinL l name).drop 0).flatMap (fldsFor l)).foldlM putF []) := by unfold Hid; rw [fieldsOf_eq, List.drop_zero]; rfl
  have hkl := kinL_len l name
  clear hv hfl hofs
  go_enter Tryz.func68, Tryz.ntmps68
  go_wp2_with fail
  refine hkc.mono ?_
  clear hkc
  rintro e w1 ⟨kv, rfl, hks, hb1⟩
  generalize kinL l name = ks at *
  obtain ⟨Ak, ck, rfl, _, _⟩ := hks.form
  have hks13 : (ks.length : Int) ≤ 13 := by omega
  go_wp2_with fail
  go_loopw [6, 17] (fun ov i wr => ∃ (k : Nat) (acc : List Fld), k ≤ ks.length ∧ i = .int .i64 k ∧ Below w1.heap.size w1 wr ∧ Own wr w1.heap.size 61 4 ov acc.length (acc.flatMap Fld.enc) ∧ acc.length ≤ 8 * k ∧
    Hid (∀ x ∈ acc, x.ok) ∧ Hid (Rise acc) ∧ Hid (fieldsOf l name = ((ks.drop k).flatMap (fldsFor l)).foldlM putF acc)) (fun _ i _ => ks.length - (intOf i).toNat)
  case atStart => exact ⟨0, [], Nat.zero_le _, rfl, Below.refl _ _, Own.nil _ _ _ _, Nat.le_refl _, (by intro x hx; simp at hx), List.Pairwise.nil, HF⟩
  case round =>
    obtain ⟨k, acc, hk, rfl, hbr, hown, hacc, HO, HR, HE⟩ := hrel
    by_cases hlt : k < ks.length
    · obtain ⟨s, hs⟩ : ∃ s, ks[k]? = some s := ⟨_, List.getElem?_eq_getElem hlt⟩
      obtain ⟨idx, kd, hidx, hkd, hfs⟩ := HM.out s (List.mem_of_getElem? hs)
      have HE2 : Hid (fieldsOf l name = (kd.fields ++ (ks.drop (k + 1)).flatMap (fldsFor l)).foldlM putF acc) := by
        unfold Hid; rw [HE.out, drop_cons hs, List.flatMap_cons, hfs]
      obtain ⟨bk, ok, rfl, hss, x0⟩ := str_at (hks.below hbr) hs
      have hbwr := hb1.trans (hbr.mono hb1.size)
      have hc := kFind_any l s _ wr (HV.out.below hbwr)
      rw [hidx] at hc
      have hkf : kd.fields.length ≤ 8 := HFL.out kd (List.mem_of_getElem? hkd)
      have hil : idx < l.length := (List.getElem?_eq_some_iff.1 hkd).1
      have hil' : (idx : Int) < (l.length : Int) := by omega
      have hlt' : (k : Int) < (ks.length : Int) := by omega
      have HKD := Lib.hid hkd
      have HKS := Lib.hid hks
      clear HE hs hidx hfs hkd hks hkl
      go_wp2_with fail
      refine hc.mono ?_
      clear hc
      rintro e w2 ⟨rfl, hb2⟩
      have hbw2 := hbwr.trans (hb2.mono hbwr.size)
      have hbr2 := hbr.trans (hb2.mono hbr.size)
      have hown2 := hown.below hb2
      obtain ⟨bl, ol, rfl, u, x, _, _, hfx, _, _, c2w⟩ := knd_at HV.out HKD.out
      have c2 := cell_below hbw2 c2w
      obtain ⟨Af, cf, rfl, _, _⟩ := hfx.form
      clear hown hbr hbwr hb2 x0 c2w
      go_wp2_with fail
      go_loopw [6, 29] (fun ov j wx => ∃ (m : Nat) (acc : List Fld), m ≤ kd.fields.length ∧ j = .int .i64 m ∧ Below w1.heap.size w1 wx ∧ Own wx w1.heap.size 61 4 ov acc.length (acc.flatMap Fld.enc) ∧ acc.length ≤ 8 * k + m ∧
        Hid (∀ x ∈ acc, x.ok) ∧ Hid (Rise acc) ∧ Hid (fieldsOf l name = (kd.fields.drop m ++ (ks.drop (k + 1)).flatMap (fldsFor l)).foldlM putF acc)) (fun _ j _ => kd.fields.length - (intOf j).toNat)
      case atStart => exact ⟨0, acc, Nat.zero_le _, rfl, hbr2, hown2, hacc, HO, HR, by unfold Hid; rw [List.drop_zero]; exact HE2.out⟩
      case round =>
        clear hacc HO HR HE2 hown2 hbr2 hbw2 c2
        obtain ⟨m, acc, hm, rfl, hbx, hown, hacc, HO, HR, HE⟩ := hrel
        obtain ⟨Ao, co, rfl, _, _⟩ := hown.form
        have hbwx := hb1.trans (hbx.mono hb1.size)
        by_cases hm2 : m < kd.fields.length
        · obtain ⟨f, hf⟩ : ∃ f, kd.fields[m]? = some f := ⟨_, List.getElem?_eq_getElem hm2⟩
          obtain ⟨bf, of, rfl, hok, y0, y1, y2, y3⟩ := fld_at (hfx.below hbwx) hf
          have HE3 : Hid (fieldsOf l name = (f :: (kd.fields.drop (m + 1) ++ (ks.drop (k + 1)).flatMap (fldsFor l))).foldlM putF acc) := by
            unfold Hid; rw [HE.out, drop_cons hf]; rfl
          have HS := Lib.hid (fold_step HE3.out)
          obtain ⟨z0, z1, z2, z3⟩ := cell_box4 wr (.string f.name) (.int .i64 f.ty) (.bool f.must) (.bool f.key) 61
          have hbB : Below w1.heap.size w1 (wr.alloc (.cells #[.string f.name, .int .i64 f.ty, .bool f.must, .bool f.key] 61)) := hbx.alloc hbx.size _
          have hownB := hown.alloc (.cells #[.string f.name, .int .i64 f.ty, .bool f.must, .bool f.key] 61)
          have hbs := bs_fld 93 #[] (by intro args w; kernel_rfl) (.string f.name) (fldC f.name) acc _ _ (hownB.flds HO.out)
            (fun d u wr' _ hu => by obtain ⟨rfl, _⟩ := hu; exact fieldsOf1_any d f.name wr') (lowI (fldC f.name) acc) (by omega) (lowI_le _ _) (fun i d hi hd => low_lt hi hd) (fun i d hi hd => low_ge (rise_chain HR.out) (fldC_mono _) hi hd)
          have hpl := lowI_le (fldC f.name) acc
          have hm2' : (m : Int) < (kd.fields.length : Int) := by omega
          have hm8 : (m : Int) ≤ 8 := by omega
          have hacc' : (acc.length : Int) ≤ 1000 := by omega
          have hokf : ∀ x ∈ acc, x.ok := HO.out
          have HOF : Hid (∀ acc', putF acc f = some acc' → (∀ x ∈ acc', x.ok) ∧ Rise acc') := fun acc' he =>
            ⟨fun x hx => by rcases (mem_putF he x).1 hx with h | rfl; exact hokf x h; exact hok, putF_rise HR.out he⟩
          clear hokf
          cases hq : eqAt (fldC f.name) acc (lowI (fldC f.name) acc) with
          | false =>
            rw [hq] at hbs
            have HP := Lib.hid (put_new hq)
            generalize lowI (fldC f.name) acc = p at *
            clear hq hf HE HE3
            go_wp2_with fail
            refine hbs.mono ?_
            clear hbs
            rintro e w3 ⟨rfl, hb3⟩
            have hown3 := hownB.below hb3
            have hb13 := hbB.trans (hb3.mono hbB.size)
            have q0 := cell_below hb3 z0
            have q1 := cell_below hb3 z1
            have q2 := cell_below hb3 z2
            have q3 := cell_below hb3 z3
            clear z0 z1 z2 z3 hownB hbB y0 y1 y2 y3
            go_wp2_with fail
            refine (ins_fld (w3.alloc (.cells #[.string f.name, .int .i64 f.ty, .bool f.must, .bool f.key] 61)) w1.heap.size _ acc.length (acc.flatMap Fld.enc) (hown3.alloc _) p hpl w3.heap.size f.enc rfl (heap_alloc_new _ _) f.enc_one (oneCell_flat Fld.enc_one acc)
              (fun e => by have := (hown3.lt _ e).2; omega) (by have := hb13.size; simp; omega) (by omega)).mono ?_
            rintro e w4 ⟨v', rfl, hown4, hg4⟩
            have hl' : (acc.take p ++ f :: acc.drop p).length = acc.length + 1 := by simp; omega
            rw [flat_insert Fld.enc_len acc p hpl, ← hl'] at hown4
            have hb4 : Below w1.heap.size w1 w4 := (hb13.alloc hb13.size _).grown hg4 (by have := hb13.size; simp; omega) (fun kk e => (hown3.lt kk e).1)
            have HN := Lib.hid (HS.out.1 _ HP.out)
            have HO2 := Lib.hid (HOF.out _ HP.out).1
            have HR2 := Lib.hid (HOF.out _ HP.out).2
            have hl2 : (acc.take p ++ f :: acc.drop p).length ≤ 8 * k + (m + 1) := by omega
            clear hg4 HS HP HOF q0 q1 q2 q3
            generalize acc.take p ++ f :: acc.drop p = acc' at *
            obtain ⟨A', c', rfl, _, _⟩ := hown4.form
            clear hl'
            go_wp2_with fail
            go_roundw
            case rel => exact ⟨m + 1, acc', by omega, by go_num, hb4, hown4, hl2, HO2, HR2, HN⟩
            case measure => simp [intOf]; omega
          | true =>
            obtain ⟨q, hq2⟩ := eqAt_some hq
            rw [hq] at hbs
            have HP := Lib.hid (put_old hq hq2)
            have hplt : lowI (fldC f.name) acc < acc.length := (List.getElem?_eq_some_iff.1 hq2).1
            generalize lowI (fldC f.name) acc = p at *
            have hplt' : (p : Int) < (acc.length : Int) := by omega
            have HQ2 := Lib.hid hq2
            clear hq hf HE HE3 hq2
            go_wp2_with fail
            refine hbs.mono ?_
            clear hbs
            rintro e w3 ⟨rfl, hb3⟩
            have hown3 := hownB.below hb3
            have hb13 := hbB.trans (hb3.mono hbB.size)
            have q0 := cell_below hb3 z0
            have q1 := cell_below hb3 z1
            have q2 := cell_below hb3 z2
            have q3 := cell_below hb3 z3
            obtain ⟨bo, oo, hAo, _, r0, r1, r2, r3⟩ := fld_at (hown3.flds HO.out) HQ2.out
            subst hAo
            have hneq := fld_neq q f
            have hgd := fld_guard
            clear z0 z1 z2 z3 hownB hbB y0 y1 y2 y3
            by_cases hqf : q = f
            · have hd : decide (q = f) = true := decide_eq_true hqf
              have HP2 : Hid (putF acc f = some acc) := by unfold Hid; rw [HP.out, if_pos hqf]
              rw [hd] at hneq
              have HN := Lib.hid (HS.out.1 _ HP2.out)
              clear HS HP HP2 HOF hd hqf HQ2
              go_wp2_with fail
              go_quiet (fail)
              go_wp2_with fail
              go_roundw
              case rel => exact ⟨m + 1, acc, by omega, by go_num, Go.below_drewN hb13 _, hown3.drewN _, by omega, HO, HR, HN⟩
              case measure => simp [intOf]; omega
            · have hd : decide (q = f) = false := decide_eq_false hqf
              have HP2 : Hid (putF acc f = none) := by unfold Hid; rw [HP.out, if_neg hqf]
              rw [hd] at hneq
              have HN := Lib.hid (HS.out.2 HP2.out)
              clear HS HP HP2 HOF hd hqf HQ2
              go_wp2_with fail
              go_quiet (fail)
              go_wp2_with fail
              go_ret2
              refine ⟨.slice none 0 0, ?_, ?_, Go.below_drewN (hb1.trans (hb13.mono hb1.size)) _⟩
              · rw [HN.out]; rfl
              · rw [HN.out]; exact ⟨Own.nil _ _ _ _, fun x hx => by cases hx⟩
        · obtain rfl : m = kd.fields.length := by omega
          have HE3 : Hid (fieldsOf l name = ((ks.drop (k + 1)).flatMap (fldsFor l)).foldlM putF acc) := by unfold Hid; rw [HE.out, List.drop_length]; rfl
          clear HE
          go_wp2_with fail
          go_roundw
          case rel => exact ⟨k + 1, acc, by omega, by go_num, hbx, hown, by omega, HO, HR, HE3⟩
          case measure => simp [intOf]; omega
    · obtain rfl : k = ks.length := by omega
      have HQ : Hid (fieldsOf l name = some acc) := by unfold Hid; rw [HE.out, List.drop_length]; rfl
      obtain ⟨Ao, co, rfl, _, _⟩ := hown.form
      go_wp2_with fail
      go_ret2
      refine ⟨.slice Ao acc.length co, ?_, ?_, hb1.trans (hbr.mono hb1.size)⟩
      · rw [HQ.out]; rfl
      · rw [HQ.out]; exact ⟨hown.mono hb1.size, HO.out⟩
theorem fieldsOf_any (l : List Knd) (name : ByteArray) (v : Value) (w : World) (hv : Sl kndL w v l) (hnm : Sm name) (hll : l.length ≤ 13) (hofs : ∀ k ∈ l, k.ofs.length ≤ 64) (hfl : ∀ k ∈ l, k.fields.length ≤ 8) :
    Calls Tryz.prog 68 #[v, .string name] w (FieldsR l name w) :=
  (fieldsOfO_any l name v w hv hnm hll hofs hfl).mono fun _ _ ⟨u, h1, h2, h3⟩ => ⟨u, h1, h2.1.flds h2.2, h3⟩

theorem Sl.take {D : Type} {L : Lay D} {w : World} {A : Option Addr} {n c : Nat} {l : List D} (h : Sl L w (.slice A n c) l) {k : Nat} (hk : k ≤ l.length) : Sl L w (.slice A k c) (l.take k) := by
  obtain ⟨A', c', hv, h1, h2, h3⟩ := h
  injection hv with hA hn hc
  subst hA; subst hc
  have hl : (l.take k).length = k := by simp; omega
  refine ⟨A, c, by rw [hl], by rw [hl]; omega, h2, fun i d hi => ?_⟩
  rw [List.getElem?_take] at hi
  split at hi
  · exact h3 i d hi
  · cases hi
theorem errV7 : errV 7 = .iface 54 (.int .i64 7) := by simp [errV]
theorem errV4 : errV 4 = .iface 54 (.int .i64 4) := by simp [errV]
theorem errV5 : errV 5 = .iface 54 (.int .i64 5) := by simp [errV]
theorem errV0 : errV 0 = .nilIface := by simp [errV]
theorem ofsE_step {l : List Knd} {r : List ByteArray} {j : Nat} {s : ByteArray} (hs : r[j]? = some s) {E : Int} (h : E = ofsE l (r.take j) (r.drop j)) :
    E = if kFind l s < 0 then 5 else if (r.take j).any (fun y => decide (s = y)) then 7 else ofsE l (r.take (j + 1)) (r.drop (j + 1)) := by
  rw [h, drop_cons hs, ofsE, take_step hs]

set_option maxRecDepth 100000 in
set_option maxHeartbeats 8000000 in
theorem one_any (l : List Knd) (k : Knd) (v u1 u2 : Value) (w : World) (hv : Sl kndL w v l) (h1 : Sl strL w u1 k.ofs) (h2 : Sl fldL w u2 k.fields) (hnm : Sm k.name) (hl : l.length ≤ 12) (hofs : ∀ x ∈ l, x.ofs.length ≤ 4) (hfl : ∀ x ∈ l, x.fields.length ≤ 8) :
    Calls Tryz.prog 45 #[v, .agg #[.string k.name, u1, u2]] w fun e w' => e = .returned (errV (oneE l k)) ∧ Below w.heap.size w w' := by
  obtain ⟨A, c, rfl, _, hcA⟩ := hv.form
  obtain ⟨A1, c1, rfl, _, hc1⟩ := h1.form
  obtain ⟨A2, c2, rfl, _, hc2⟩ := h2.form
  unfold maxLen at hc1 hc2 hcA
  obtain ⟨z0, z1, z2⟩ := cell_box3 w (.string k.name) (.slice A1 k.ofs.length c1) (.slice A2 k.fields.length c2) 59
  have hb0 : Below w.heap.size w (w.alloc (.cells #[.string k.name, .slice A1 k.ofs.length c1, .slice A2 k.fields.length c2] 59)) := (Below.refl _ _).alloc (Nat.le_refl _) _
  have HOF := Lib.hid hofs
  have HFL := Lib.hid hfl
  clear hofs hfl
  go_enter Tryz.func45, Tryz.ntmps45
  go_wp2_with fail
  refine (name_any k.name _ hnm).mono ?_
  rintro e w1 ⟨rfl, hb1⟩
  have hB1 := hb0.trans (hb1.mono hb0.size)
  have p0 := cell_below hb1 z0
  have p1 := cell_below hb1 z1
  have p2 := cell_below hb1 z2
  generalize w.alloc (.cells #[.string k.name, .slice A1 k.ofs.length c1, .slice A2 k.fields.length c2] 59) = W at *
  clear z0 z1 z2
  by_cases hn : nameE k.name = 0
  case neg =>
    have HE : Hid (errV (oneE l k) = .iface 54 (.int .i64 (nameE k.name))) := by unfold Hid oneE; rw [if_neg hn, errV_some hn]
    rw [errV_some hn]
    clear hn
    go_wp2_with fail
    go_ret
    exact ⟨by rw [HE.out]; rfl, hB1⟩
  have HE1 : Hid (oneE l k = if 0 ≤ kFind l k.name then 7 else if 4 < k.ofs.length then 4 else if 8 < k.fields.length then 4 else if ofsE l [] k.ofs = 0 then if fldsE none k.fields = 0 then sumE (fieldsOf (l ++ [k]) k.name) else fldsE none k.fields else ofsE l [] k.ofs) := by
    unfold Hid oneE; rw [if_pos hn]
  rw [errV_zero hn]
  clear hn
  go_wp2_with fail
  refine (kFind_any l k.name _ _ (hv.below hB1)).mono ?_
  rintro e w2 ⟨rfl, hb2⟩
  have hB2 := hB1.trans (hb2.mono hB1.size)
  have q0 := cell_below hb2 p0
  have q1 := cell_below hb2 p1
  have q2 := cell_below hb2 p2
  clear p0 p1 p2 hb1 hB1
  generalize kFind l k.name = z at *
  by_cases hz : 0 ≤ z
  case pos =>
    have HE : Hid (errV (oneE l k) = .iface 54 (.int .i64 7)) := by unfold Hid; rw [HE1.out, if_pos hz, errV7]
    clear HE1
    go_wp2_with fail
    go_ret
    exact ⟨by rw [HE.out]; rfl, hB2⟩
  have hz' : z < 0 := by omega
  have HE2 : Hid (oneE l k = if 4 < k.ofs.length then 4 else if 8 < k.fields.length then 4 else if ofsE l [] k.ofs = 0 then if fldsE none k.fields = 0 then sumE (fieldsOf (l ++ [k]) k.name) else fldsE none k.fields else ofsE l [] k.ofs) := by
    unfold Hid; rw [HE1.out, if_neg hz]
  clear HE1 hz
  by_cases h4 : 4 < k.ofs.length
  case pos =>
    have HE : Hid (errV (oneE l k) = .iface 54 (.int .i64 4)) := by unfold Hid; rw [HE2.out, if_pos h4, errV4]
    have h4' : (4 : Int) < (k.ofs.length : Int) := by omega
    clear HE2
    go_wp2_with fail
    go_ret
    exact ⟨by rw [HE.out]; rfl, hB2⟩
  have h4' : (k.ofs.length : Int) ≤ 4 := by omega
  by_cases h8 : 8 < k.fields.length
  case pos =>
    have HE : Hid (errV (oneE l k) = .iface 54 (.int .i64 4)) := by unfold Hid; rw [HE2.out, if_neg h4, if_pos h8, errV4]
    have h8' : (8 : Int) < (k.fields.length : Int) := by omega
    clear HE2
    go_wp2_with fail
    go_ret
    exact ⟨by rw [HE.out]; rfl, hB2⟩
  have h8' : (k.fields.length : Int) ≤ 8 := by omega
  have HE3 : Hid (oneE l k = if ofsE l [] k.ofs = 0 then if fldsE none k.fields = 0 then sumE (fieldsOf (l ++ [k]) k.name) else fldsE none k.fields else ofsE l [] k.ofs) := by
    unfold Hid; rw [HE2.out, if_neg h4, if_neg h8]
  clear HE2
  go_wp2_with fail
  go_loopw [39] (fun i wr => ∃ j : Nat, j ≤ k.ofs.length ∧ i = .int .i64 j ∧ Below w2.heap.size w2 wr ∧ Hid (ofsE l [] k.ofs = ofsE l (k.ofs.take j) (k.ofs.drop j))) (fun i _ => k.ofs.length - (intOf i).toNat)
  case atStart => exact ⟨0, Nat.zero_le _, rfl, Below.refl _ _, rfl⟩
  case round =>
    obtain ⟨j, hj, rfl, hbr, HR⟩ := hrel
    have hBr := hB2.trans (hbr.mono hB2.size)
    have r0 := cell_below hbr q0
    have r1 := cell_below hbr q1
    have r2 := cell_below hbr q2
    clear q0 q1 q2 hb2 hB2
    by_cases hlt : j < k.ofs.length
    · obtain ⟨s, hs⟩ : ∃ s, k.ofs[j]? = some s := ⟨_, List.getElem?_eq_getElem hlt⟩
      obtain ⟨bs, os, rfl, hss, x0⟩ := str_at (h1.below hBr) hs
      have HS := Lib.hid (ofsE_step hs HR.out)
      have hlt' : (j : Int) < (k.ofs.length : Int) := by omega
      have htk := h1.take hj
      clear hs HR
      go_wp2_with fail
      refine (kFind_any l s _ _ (hv.below hBr)).mono ?_
      rintro e w3 ⟨rfl, hb3⟩
      have hB3 := hBr.trans (hb3.mono hBr.size)
      have s0 := cell_below hb3 r0
      have s1 := cell_below hb3 r1
      have s2 := cell_below hb3 r2
      clear r0 r1 r2 x0
      generalize kFind l s = z2 at *
      by_cases hz2 : z2 < 0
      · have HE : Hid (errV (oneE l k) = .iface 54 (.int .i64 5)) := by unfold Hid; rw [HE3.out, HS.out, if_pos hz2, if_neg (by omega), errV5]
        clear HE3 HS
        go_wp2_with fail
        go_ret
        exact ⟨by rw [HE.out]; rfl, hB3⟩
      · have hz3 : 0 ≤ z2 := by omega
        have HS2 : Hid (ofsE l [] k.ofs = if (k.ofs.take j).any (fun y => decide (s = y)) then 7 else ofsE l (k.ofs.take (j + 1)) (k.ofs.drop (j + 1))) := by unfold Hid; rw [HS.out, if_neg hz2]
        have hj' : (j : Int) ≤ (c1 : Int) := by omega
        clear HS hz2
        go_wp2_with fail
        refine (containsStr_any _ s _ _ (htk.below hB3)).mono ?_
        rintro e w4 ⟨rfl, rfl⟩
        cases hany : (k.ofs.take j).any (fun y => decide (s = y)) with
        | true =>
          have HE : Hid (errV (oneE l k) = .iface 54 (.int .i64 7)) := by unfold Hid; rw [HE3.out, HS2.out, hany, if_pos rfl, if_neg (by omega), errV7]
          clear HE3 HS2 hany
          go_wp2_with fail
          go_ret
          exact ⟨by rw [HE.out]; rfl, hB3⟩
        | false =>
          have HN : Hid (ofsE l [] k.ofs = ofsE l (k.ofs.take (j + 1)) (k.ofs.drop (j + 1))) := by unfold Hid; rw [HS2.out, hany]; simp
          clear HE3 HS2 hany
          go_wp2_with fail
          go_roundw
          case rel => exact ⟨j + 1, by omega, by go_num, hbr.trans (hb3.mono hbr.size), HN⟩
          case measure => simp [intOf]; omega
    · obtain rfl : j = k.ofs.length := by omega
      have HO : Hid (ofsE l [] k.ofs = 0) := by unfold Hid; rw [HR.out, List.drop_length]; rfl
      have HE4 : Hid (oneE l k = if fldsE none k.fields = 0 then sumE (fieldsOf (l ++ [k]) k.name) else fldsE none k.fields) := by unfold Hid; rw [HE3.out, if_pos HO.out]
      clear HE3 HO HR
      go_wp2_with fail
      refine (flds_any k.fields _ _ (h2.below hBr)).mono ?_
      rintro e w3 ⟨rfl, hb3⟩
      have hB3 := hBr.trans (hb3.mono hBr.size)
      have s0 := cell_below hb3 r0
      have s1 := cell_below hb3 r1
      have s2 := cell_below hb3 r2
      clear r0 r1 r2
      by_cases hf : fldsE none k.fields = 0
      case neg =>
        have HE : Hid (errV (oneE l k) = .iface 54 (.int .i64 (fldsE none k.fields))) := by unfold Hid; rw [HE4.out, if_neg hf, errV_some hf]
        rw [errV_some hf]
        clear hf HE4
        go_wp2_with fail
        go_ret
        exact ⟨by rw [HE.out]; rfl, hB3⟩
      have HE5 : Hid (oneE l k = sumE (fieldsOf (l ++ [k]) k.name)) := by unfold Hid; rw [HE4.out, if_pos hf]
      rw [errV_zero hf]
      clear hf HE4
      have hv3 := hv.below hB3
      have hbs : w.heap.size < w3.heap.size := World.block_lt_of_cell? _ _ s0
      obtain ⟨i0, ei, ez, ez1, ez2⟩ := info_parts clone_knds_info
      go_wp2_with fail
      go_region_held3 (fun w' => w'.cell? ⟨w.heap.size, 0, none⟩ = some (.string k.name) ∧ w'.cell? ⟨w.heap.size, 1, none⟩ = some (.slice A1 k.ofs.length c1) ∧ w'.cell? ⟨w.heap.size, 2, none⟩ = some (.slice A2 k.fields.length c2))
        (first
          | exact hkeep
          | go_keep)
        (first
          | (go_at_call 67
             refine (clone_knds (l := l) (hv3.below (Below.refl _ _).drew) (by omega)).mono ?_
             rintro e w4 ⟨cv, xs, rfl, hown, hrow, hb4⟩
             have hkeep := And.intro (cell_below hb4 s0) (And.intro (cell_below hb4 s1) (cell_below hb4 s2))
             have hordA : True := trivial)
          | (go_at_call 67
             refine (clone_knds (l := l) (hv3.below ((Below.refl _ _).drew.alloc (Nat.le_refl _) _)) (by omega)).mono ?_
             rintro e w4 ⟨cv, xs, rfl, hown, hrow, hb4⟩
             have hkeep := And.intro (cell_below hb4 (cell_below ((Below.refl _ _).alloc (Nat.le_refl _) _) s0)) (And.intro (cell_below hb4 (cell_below ((Below.refl _ _).alloc (Nat.le_refl _) _) s1)) (cell_below hb4 (cell_below ((Below.refl _ _).alloc (Nat.le_refl _) _) s2)))
             have hordB : True := trivial)
          | (have _t := hordA
             refine wp_append_q _ (.tmp 66) (.tmp 68) 22 rfl w3.heap.size 59 i0 (.agg #[.string .empty, .slice none 0 0, .slice none 0 0]) 3 64 Tryz.underlying22 ei ez ez1 ez2 rfl (by decide) cv l.length xs rfl (hown.alloc _) (some ⟨w4.heap.size, 0, none⟩) 1 1 [.string k.name, .slice A1 k.ofs.length c1, .slice A2 k.fields.length c2] rfl rfl
               (fun _ => ⟨_, rfl, fun j u hj => by rw [addr_add, Nat.zero_add, World.cell?_alloc_at _ _ _ _ rfl]; simpa using hj⟩) (fun u hu => by simp at hu; rcases hu with rfl | rfl | rfl <;> rfl) (by unfold maxLen; omega) (by omega) (by have := hb4.size; simp at this ⊢; omega) ?_
             intro v7 w7 hown7 hg7 hat7
             have hbX := (hb4.alloc hb4.size _).grown hg7 (by have := hb4.size; simp at this ⊢; omega) (fun kk e => (hown.lt kk e).1)
             have hb7 : Below w3.heap.size w3 w7 := (Below.refl _ _).drew.trans hbX
             have hrow7 := hrow.below hbX
             have hkeep := And.intro (cell_below hb7 s0) (And.intro (cell_below hb7 s1) (cell_below hb7 s2))
             clear hordA)
          | (have _t := hordB
             refine wp_append_q _ (.tmp 66) (.tmp 68) 22 rfl w3.heap.size 59 i0 (.agg #[.string .empty, .slice none 0 0, .slice none 0 0]) 3 64 Tryz.underlying22 ei ez ez1 ez2 rfl (by decide) cv l.length xs rfl (hown.mono (by simp)) (some ⟨w3.heap.size, 0, none⟩) 1 1 [.string k.name, .slice A1 k.ofs.length c1, .slice A2 k.fields.length c2] rfl rfl
               (fun _ => ⟨_, rfl, fun j u hj => by rw [addr_add, Nat.zero_add]; exact cell_below hb4 (by show (w3.alloc _).cell? _ = _; rw [World.cell?_alloc_at _ _ _ _ rfl]; simpa using hj)⟩) (fun u hu => by simp at hu; rcases hu with rfl | rfl | rfl <;> rfl) (by unfold maxLen; omega) (by omega) (by have := hb4.size; simp at this ⊢; omega) ?_
             intro v7 w7 hown7 hg7 hat7
             have hbX := hb4.grown hg7 hb4.size (fun kk e => (hown.lt kk e).1)
             have hb7 : Below w3.heap.size w3 w7 := ((Below.refl _ _).alloc (Nat.le_refl _) _).drew.trans (hbX.mono (by simp))
             have hrow7 := hrow.below hbX
             have hkeep := And.intro (cell_below hb7 s0) (And.intro (cell_below hb7 s1) (cell_below hb7 s2))
             clear hordB))
      all_goals
        have hB7 := hB3.trans (hb7.mono hB3.size)
        have hsl7 : Sl kndL w7 v7 (l ++ [k]) := by
          have hr7 : Row kndL w7 (l ++ [k]) (xs ++ [.string k.name, .slice A1 k.ofs.length c1, .slice A2 k.fields.length c2]) :=
            hrow7.snoc ⟨_, _, rfl, hnm, h1.below hB7, h2.below hB7⟩
          exact Own.row (L := kndL) (by rw [List.length_append]; exact hown7) hr7
        obtain ⟨t0, t1, t2⟩ := hkeep
        have hfo := fieldsOf_any (l ++ [k]) k.name v7 w7 hsl7 hnm (by simp; omega) (fun x hx => by
            rcases List.mem_append.1 hx with h | h
            · have := HOF.out x h; omega
            · simp at h; subst h; omega) (fun x hx => by
            rcases List.mem_append.1 hx with h | h
            · exact HFL.out x h
            · simp at h; subst h; omega)
        clear hg7 hat7 hown7 hown hrow hrow7 hbX
        generalize l ++ [k] = l7 at *
        obtain ⟨A7, c7, rfl, _, _⟩ := hsl7.form
        clear hsl7
        go_wp2_with fail
        refine hfo.mono ?_
        clear hfo
        rintro e w8 ⟨fv, rfl, hfs, hb8⟩
        have hB8 := hB7.trans (hb8.mono hB7.size)
        obtain ⟨Af, cf, rfl, _, _⟩ := hfs.form
        have hf2 := hfs
        cases hF : fieldsOf l7 k.name with
        | none =>
          have HE : Hid (errV (oneE l k) = .iface 54 (.int .i64 7)) := by unfold Hid; rw [HE5.out, hF]; simp [sumE, errV]
          clear HE5 hF hfs hf2
          simp only [Option.isSome, Option.getD]
          go_wp2_with fail
          go_ret
          exact ⟨by rw [HE.out]; rfl, hB8⟩
        | some fs =>
          simp only [Option.isSome, Option.getD]
          by_cases h9 : 8 < fs.length
          · have HE : Hid (errV (oneE l k) = .iface 54 (.int .i64 4)) := by unfold Hid; rw [HE5.out, hF]; simp [sumE, h9, errV]
            have h9' : (8 : Int) < (fs.length : Int) := by omega
            clear HE5 hF hfs hf2
            go_wp2_with fail
            go_ret
            exact ⟨by rw [HE.out]; rfl, hB8⟩
          · have HE : Hid (errV (oneE l k) = .nilIface) := by unfold Hid; rw [HE5.out, hF]; simp [sumE, h9, errV]
            have h9' : (fs.length : Int) ≤ 8 := by omega
            clear HE5 hF hfs hf2
            go_wp2_with fail
            go_ret
            exact ⟨by rw [HE.out]; rfl, hB8⟩

theorem kindsE_step {l : List Knd} {j : Nat} {k : Knd} (hk : l[j]? = some k) {E : ByteArray × Int} (h : E = kindsE (l.take j) (l.drop j)) :
    E = if oneE (l.take j) k = 0 then kindsE (l.take (j + 1)) (l.drop (j + 1)) else (k.name, oneE (l.take j) k) := by
  rw [h, drop_cons hk, kindsE, take_step hk]
def CheckR (l : List Knd) (w : World) (e : Ending) (w' : World) : Prop := e = .returned (.tuple #[.string (checkE l).1, errV (checkE l).2]) ∧ Below w.heap.size w w'
theorem oneE_ofl {l : List Knd} {k : Knd} (h : oneE l k = 0) : k.ofs.length ≤ 4 ∧ k.fields.length ≤ 8 := ⟨(oneE_zero h).ofl, (oneE_zero h).fll⟩

set_option maxRecDepth 100000 in
set_option maxHeartbeats 4000000 in
theorem kcheck_any (l : List Knd) (v : Value) (w : World) (hv : Sl kndL w v l) : Calls Tryz.prog 20 #[v] w (CheckR l w) := by
  obtain ⟨A, c, rfl, hlc, hcA⟩ := hv.form
  unfold maxLen at hcA
  have hlm : (l.length : Int) ≤ 9223372036854775807 := by omega
  by_cases h12 : 12 < l.length
  · have HE : Hid (checkE l = (.empty, 4)) := by unfold Hid checkE; rw [if_pos h12]
    have h12' : (12 : Int) < (l.length : Int) := by omega
    clear hv
    go_enter Tryz.func20, Tryz.ntmps20
    go_wp2_with fail
    go_ret2
    exact ⟨by rw [HE.out, errV4]; rfl, Below.refl _ _⟩
  have h12' : (l.length : Int) ≤ 12 := by omega
  have HE0 : Hid (checkE l = kindsE [] l) := by unfold Hid checkE; rw [if_neg h12]
  go_enter Tryz.func20, Tryz.ntmps20
  go_wp2_with fail
  go_loopw [13] (fun i wr => ∃ j : Nat, j ≤ l.length ∧ i = .int .i64 j ∧ Below w.heap.size w wr ∧ Hid (kindsE [] l = kindsE (l.take j) (l.drop j)) ∧ Hid (∀ x ∈ l.take j, x.ofs.length ≤ 4 ∧ x.fields.length ≤ 8)) (fun i _ => l.length - (intOf i).toNat)
  case atStart => exact ⟨0, Nat.zero_le _, rfl, Below.refl _ _, rfl, fun x hx => by simp at hx⟩
  case round =>
    obtain ⟨j, hj, rfl, hbr, HR, HS⟩ := hrel
    by_cases hlt : j < l.length
    · obtain ⟨k, hk⟩ : ∃ k, l[j]? = some k := ⟨_, List.getElem?_eq_getElem hlt⟩
      obtain ⟨b, o, rfl, u, x, hnm, hso, hsf, c0, c1, c2⟩ := knd_at (hv.below hbr) hk
      obtain ⟨A1, q1, rfl, _, _⟩ := hso.form
      obtain ⟨A2, q2, rfl, _, _⟩ := hsf.form
      obtain ⟨z0, z1, z2⟩ := cell_box3 wr (.string k.name) (.slice A1 k.ofs.length q1) (.slice A2 k.fields.length q2) 59
      have hbb : Below wr.heap.size wr (wr.alloc (.cells #[.string k.name, .slice A1 k.ofs.length q1, .slice A2 k.fields.length q2] 59)) := (Below.refl _ _).alloc (Nat.le_refl _) _
      have hlt' : (j : Int) < (l.length : Int) := by omega
      have hjc : (j : Int) ≤ (c : Int) := by omega
      have hlk : (l.take j).length ≤ 12 := by simp; omega
      have HV : Hid (Sl kndL (wr.alloc (.cells #[.string k.name, .slice A1 k.ofs.length q1, .slice A2 k.fields.length q2] 59)) (.slice (some ⟨b, o, none⟩) j c) (l.take j)) := (Sl.take ((hv.below hbr).below hbb) hj)
      have HSO := Lib.hid (hso.below hbb)
      have HSF := Lib.hid (hsf.below hbb)
      have HK := Lib.hid (kindsE_step hk HR.out)
      have HT := Lib.hid (take_step hk)
      clear hk HR hso hsf
      go_wp2_with fail
      refine wp_mid_k 4 _ rfl rfl (by kernel_rfl) (by kernel_rfl) ?_
      simp only [List.take_succ_cons, List.take_zero, List.drop_succ_cons, List.drop_zero]
      repeat (go_big_quiet_step (fail))
      refine wpQuiet_nil ?_
      intro _ hw'
      obtain ⟨nq, hw''⟩ := hw'
      subst hw''
      intro K hK
      have hone := one_any (l.take j) k _ _ _ _ (HV.out.below (Go.below_drewN (Below.refl _ _) nq)) (HSO.out.below (Go.below_drewN (Below.refl _ _) nq)) (HSF.out.below (Go.below_drewN (Below.refl _ _) nq)) hnm hlk (fun x hx => (HS.out x hx).1) (fun x hx => (HS.out x hx).2)
      have hbN : Below w.heap.size w ((wr.alloc (.cells #[.string k.name, .slice A1 k.ofs.length q1, .slice A2 k.fields.length q2] 59)).drewN nq) := Go.below_drewN (hbr.alloc hbr.size _) nq
      have y0 : ((wr.alloc (.cells #[.string k.name, .slice A1 k.ofs.length q1, .slice A2 k.fields.length q2] 59)).drewN nq).cell? ⟨wr.heap.size, 0, none⟩ = some (.string k.name) := z0
      go_wp2_with fail
      refine hone.mono ?_
      clear hone
      rintro e w3 ⟨rfl, hb3⟩
      have hB3 := hbN.trans (hb3.mono hbN.size)
      have x0 := cell_below hb3 y0
      clear y0 z0 z1 z2 hb3 hbN
      by_cases he : oneE (l.take j) k = 0
      · have HN : Hid (kindsE [] l = kindsE (l.take (j + 1)) (l.drop (j + 1))) := by unfold Hid; rw [HK.out, if_pos he]
        have HS2 : Hid (∀ x ∈ l.take (j + 1), x.ofs.length ≤ 4 ∧ x.fields.length ≤ 8) := by
          intro x hx
          rw [HT.out] at hx
          rcases List.mem_append.1 hx with h | h
          · exact HS.out x h
          · simp at h; subst h; exact oneE_ofl he
        rw [errV_zero he]
        clear he HK
        refine hK _ _ ?_
        repeat (go_big_quiet_step (fail))
        refine wpQuiet_nil ?_
        intro _ hw'
        obtain ⟨nq2, hw''⟩ := hw'
        subst hw''
        go_wp2_with fail
        go_roundw
        case rel => exact ⟨j + 1, by omega, by go_num, Go.below_drewN hB3 _, HN, HS2⟩
        case measure => simp [intOf]; omega
      · have HE : Hid (checkE l = (k.name, oneE (l.take j) k)) := by unfold Hid; rw [HE0.out, HK.out, if_neg he]
        have HV : Hid (errV (oneE (l.take j) k) = .iface 54 (.int .i64 (oneE (l.take j) k))) := errV_some he
        rw [errV_some he]
        clear he HK
        refine hK _ _ ?_
        repeat (go_big_quiet_step (fail))
        refine wpQuiet_nil ?_
        intro _ hw'
        obtain ⟨nq2, hw''⟩ := hw'
        subst hw''
        go_wp2_with fail
        go_ret2
        exact ⟨by rw [HE.out, HV.out]; rfl, Go.below_drewN hB3 _⟩
    · obtain rfl : j = l.length := by omega
      have HE : Hid (checkE l = (.empty, 0)) := by unfold Hid; rw [HE0.out, HR.out, List.drop_length]; rfl
      clear hv
      go_wp2_with fail
      go_ret2
      exact ⟨by rw [HE.out, errV0]; rfl, hbr⟩

/-! ### Lists -/
section
variable {D : Type} {n : Nat} {enc : D → List Value}
end

/-! ### What is kept -/
structure Kept {D : Type} (p : D → Bool) (l dk : List D) (j i : Nat) : Prop where
  len : dk.length = l.length
  lt : i < j
  le : j ≤ l.length
  low : dk.take i = (l.take j).filter (fun x => !p x)
  high : dk.drop j = l.drop j
theorem filter_all {D : Type} {p : D → Bool} {l : List D} (h : ∀ j x, j < l.length → l[j]? = some x → p x = false) : l.filter (fun x => !p x) = l := by
  rw [List.filter_eq_self]
  intro x hx
  obtain ⟨i, hi⟩ := List.mem_iff_getElem?.1 hx
  rw [h i x (List.getElem?_eq_some_iff.1 hi).1 hi]; rfl
theorem take_snoc {D : Type} {l : List D} {j : Nat} {d : D} (h : l[j]? = some d) : l.take (j + 1) = l.take j ++ [d] := by
  rw [List.take_add_one, h]; rfl
theorem Kept.start {D : Type} {p : D → Bool} {l : List D} {k : Nat} {d : D} (h : l[k]? = some d) (hd : p d = true) (hm : ∀ j x, j < k → l[j]? = some x → p x = false) : Kept p l l (k + 1) k := by
  have hk := (List.getElem?_eq_some_iff.1 h).1
  refine ⟨rfl, by omega, by omega, ?_, rfl⟩
  rw [take_snoc h, List.filter_append]
  have e : [d].filter (fun x => !p x) = [] := by simp [hd]
  rw [e, List.append_nil, filter_all]
  intro j x hj hx
  rw [List.getElem?_take] at hx
  split at hx
  · exact hm j x (by assumption) hx
  · cases hx
theorem Kept.at {D : Type} {p : D → Bool} {l dk : List D} {j i : Nat} (h : Kept p l dk j i) (_hj : j < l.length) : dk[j]? = l[j]? := by
  have := congrArg (fun x => x[0]?) h.high
  simpa using this
theorem Kept.skip {D : Type} {p : D → Bool} {l dk : List D} {j i : Nat} {d : D} (h : Kept p l dk j i) (hd : l[j]? = some d) (hp : p d = true) : Kept p l dk (j + 1) i := by
  have hjl := (List.getElem?_eq_some_iff.1 hd).1
  refine ⟨h.len, by have := h.lt; omega, by omega, ?_, ?_⟩
  · rw [take_snoc hd, List.filter_append, h.low]; simp [hp]
  · have := congrArg (List.drop 1) h.high
    simpa using this
theorem Kept.keep {D : Type} {p : D → Bool} {l dk : List D} {j i : Nat} {d : D} (h : Kept p l dk j i) (hd : l[j]? = some d) (hp : p d = false) : Kept p l (dk.set i d) (j + 1) (i + 1) := by
  have hj := (List.getElem?_eq_some_iff.1 hd).1
  have hlt := h.lt
  have hl := h.len
  refine ⟨by rw [List.length_set]; exact hl, by omega, by omega, ?_, ?_⟩
  · rw [take_snoc hd, List.filter_append, ← h.low, take_snoc (l := dk.set i d) (j := i) (d := d) (by rw [List.getElem?_set]; simp; omega), List.take_set_of_le (Nat.le_refl _)]
    simp [hp]
  · rw [List.drop_set_of_lt (by omega)]
    have := congrArg (List.drop 1) h.high
    simpa using this
theorem Kept.done {D : Type} {p : D → Bool} {l dk : List D} {i : Nat} (h : Kept p l dk l.length i) : dk.take i = l.filter (fun x => !p x) ∧ (l.filter (fun x => !p x)).length = i := by
  have e := h.low
  rw [List.take_length] at e
  refine ⟨e, ?_⟩
  rw [← e, List.length_take]
  have := h.lt; have := h.len; omega
/-! ### The model: clear -/
theorem grownBy_setRow {w : World} {g : Nat} {xs : Array Value} : w.grownBy (w.setRow g xs) (some g) :=
  ⟨rfl, rfl, rfl, by simp, fun k _ hk => setRow_other w g k _ (fun e => hk (by rw [e]))⟩
section
variable {P : Program}
theorem run_clear_q (w : World) (t ty e te : TypeId) (i0 : TypeInfo) (z : Value) (size : Nat) (ht : P.underlying t = some (.slice e)) (hi : P.info? e = some i0) (hz : i0.zero = some z) (hzs : z.cells.size = size) (h1 : ∀ u ∈ z.cells, u.oneCell' = true)
    (g o n c : Nat) (cur : Array Value) (hg : w.heap[g]? = some (.cells cur te (0, 0))) (hn : 0 < n) (hs : 0 < size) (hfit : o + n * size ≤ cur.size) :
    (Builtin.clear_ #[t] ty #[.slice (some ⟨g, o, none⟩) n c]).run P w = .ok (.tuple #[]) (w.setRow g (lay cur.toList o (Builtin.zeroCells z.cells n).toList).toArray) := by
  have hzl : (Builtin.zeroCells z.cells n).toList.length = n * size := by rw [Array.length_toList, size_zeroCells, hzs]
  have hone : ∀ u ∈ (Builtin.zeroCells z.cells n).toList, u.oneCell' = true := by
    intro u hu
    simp only [Builtin.zeroCells, Array.toList_map, List.mem_map] at hu
    obtain ⟨k, _, rfl⟩ := hu
    have hlt : k % z.cells.size < z.cells.size := Nat.mod_lt _ (by omega)
    rw [getElem!_pos z.cells _ hlt]
    exact h1 _ (Array.getElem_mem hlt)
  have hst := run_storeCells_at P g o te (Builtin.zeroCells z.cells n).toList 0 cur w hg (by rw [hzl]; omega) hone
  obtain ⟨m, rfl⟩ : ∃ m, n = m + 1 := ⟨n - 1, by omega⟩
  unfold lay
  simp [Builtin.clear_, run_underlying ht, zeroValue, typeInfo, hi, hz, hst]
theorem Own.clear {w : World} {B : Nat} {e : TypeId} {g o n c i : Nat} {xs : List Value} (t : TypeId) (i0 : TypeInfo) (z : Value) (size : Nat) (ht : P.underlying t = some (.slice e)) (hi : P.info? e = some i0) (hz : i0.zero = some z) (hzs : z.cells.size = size) (h1' : z.cells.all (fun u => u.oneCell') = true) (hs : 0 < size)
    (h : Own w B e size (.slice (some ⟨g, o, none⟩) n c) n xs) (hin : i < n) :
    ∃ w', (∀ ty c', (Builtin.clear_ #[t] ty #[.slice (some ⟨g, o + i * size, none⟩) (n - i) c']).run P w = .ok (.tuple #[]) w') ∧ Own w' B e size (.slice (some ⟨g, o, none⟩) i c) i (xs.take (i * size)) ∧ w.grownBy w' (some g) := by
  have h1 : ∀ u ∈ z.cells, u.oneCell' = true := fun u hu => Array.all_eq_true_iff_forall_mem.1 h1' u hu
  rcases h.2 with ⟨h0, _⟩ | ⟨g', o', cap, cur, hv, hb, hg, h2, h3, h4, h5⟩
  · cases h0
  · injection hv with e1 _ e3
    injection e1 with e1
    injection e1 with e1 e2
    subst e1; subst e2; subst e3
    have hni : (n - i) * size + i * size = n * size := by rw [← Nat.add_mul]; congr 1; omega
    have hnc : n * size ≤ c * size := Nat.mul_le_mul_right _ h2
    have hic : i * size ≤ n * size := Nat.mul_le_mul_right _ (by omega)
    have hzl : (Builtin.zeroCells z.cells (n - i)).toList.length = (n - i) * size := by rw [Array.length_toList, size_zeroCells, hzs]
    refine ⟨_, fun ty c' => run_clear_q w t ty e e i0 z size ht hi hz hzs h1 g (o + i * size) (n - i) c' cur hg (by omega) hs (by omega), ⟨by rw [List.length_take, h.1]; omega, .inr ⟨g, o, c, _, rfl, hb, setRow_heap w g cur _ e _ hg, by omega, h3, ?_, ?_⟩⟩, grownBy_setRow⟩
    · rw [List.size_toArray, lay_length (by rw [hzl, Array.length_toList]; omega), Array.length_toList]; omega
    · show ((lay cur.toList (o + i * size) _).drop o).take (i * size) = _
      unfold lay
      rw [List.append_assoc, List.drop_append_of_le_length (by rw [List.length_take, Array.length_toList]; omega), List.take_append_of_le_length (by rw [List.length_drop, List.length_take, Array.length_toList]; omega), ← h5, List.take_take, Nat.min_eq_left hic, List.drop_take, List.take_take]
      congr 1
      omega
end
/-- The first k of it. -/
theorem Own.first {w : World} {B : Nat} {e : TypeId} {sz g o n c : Nat} {xs : List Value} (h : Own w B e sz (.slice (some ⟨g, o, none⟩) n c) n xs) {k : Nat} (hk : k ≤ n) : Own w B e sz (.slice (some ⟨g, o, none⟩) k c) k (xs.take (k * sz)) := by
  rcases h.2 with ⟨h0, _⟩ | ⟨g', o', cap, cur, hv, hb, hg, h2, h3, h4, h5⟩
  · cases h0
  · injection hv with e1 _ e3
    injection e1 with e1
    injection e1 with e1 e2
    subst e1; subst e2; subst e3
    have hic : k * sz ≤ n * sz := Nat.mul_le_mul_right _ hk
    refine ⟨by rw [List.length_take, h.1]; omega, .inr ⟨g, o, c, cur, rfl, hb, hg, by omega, h3, h4, ?_⟩⟩
    rw [← h5, List.take_take, Nat.min_eq_left hic]
end Go.Proofs.YtfeccicogcnhcaaGreatDoor
