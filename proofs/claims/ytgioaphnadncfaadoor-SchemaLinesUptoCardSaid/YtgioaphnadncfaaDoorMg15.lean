/- Parts: KinH. -/
import Derived.Test.YtgioaphnadncfaaDoorMg14
import Derived.Test.YtgioaphnadncfaaDoorMg11
import Derived.Test.YtgioaphnadncfaaDoorMg07
/- Contract: kind.FieldsOf: a kind's fields, all of its kin's. -/
namespace Go.Proofs.YtgioaphnadncfaaDoor
open Go Go.RowKit

def FieldsR (l : List Knd) (name : ByteArray) (w : World) (e : Ending) (w' : World) : Prop :=
  ∃ u, e = .returned (.tuple #[u, .bool (fieldsOf l name).isSome]) ∧ Sl fldL w' u ((fieldsOf l name).getD []) ∧ Below w.heap.size w w'
/-- The same, the fields the call's own. -/
def FieldsO (l : List Knd) (name : ByteArray) (w : World) (e : Ending) (w' : World) : Prop :=
  ∃ u, e = .returned (.tuple #[u, .bool (fieldsOf l name).isSome]) ∧ (Own w' w.heap.size 59 4 u ((fieldsOf l name).getD []).length (((fieldsOf l name).getD []).flatMap Fld.enc) ∧ ∀ x ∈ (fieldsOf l name).getD [], x.ok) ∧ Below w.heap.size w w'
theorem kin_known {l : List Knd} {name : ByteArray} : ∀ s ∈ kinL l name, ∃ (i : Nat) (k : Knd), kFind l s = i ∧ l[i]? = some k ∧ fldsFor l s = k.fields := by
  intro s hs
  obtain ⟨⟨k, hk, rfl⟩, _⟩ := mem_kinL.1 hs
  obtain ⟨i, x, h1, h2, h3, _⟩ := kFind_pos (kFind_mem hk)
  refine ⟨i, x, h1, h2, ?_⟩
  unfold fldsFor
  rw [find_of_kFind h1 h2]
theorem kinL_len (l : List Knd) (name : ByteArray) : (kinL l name).length ≤ l.length := by
  unfold kinL
  rw [List.length_map]
  exact List.length_filter_le _ _
theorem fold_step {f : Fld} {rest acc : List Fld} {r : Option (List Fld)} (h : r = (f :: rest).foldlM putF acc) : (∀ acc', putF acc f = some acc' → r = rest.foldlM putF acc') ∧ (putF acc f = none → r = none) := by
  rw [h, List.foldlM_cons]
  exact ⟨fun acc' e => by rw [e]; rfl, fun e => by rw [e]; rfl⟩
theorem put_new {acc : List Fld} {f : Fld} (h : eqAt (fldC f.name) acc (lowI (fldC f.name) acc) = false) : putF acc f = some (acc.take (lowI (fldC f.name) acc) ++ f :: acc.drop (lowI (fldC f.name) acc)) := by
  unfold putF; rw [h]; simp
theorem put_old {acc : List Fld} {f q : Fld} (h : eqAt (fldC f.name) acc (lowI (fldC f.name) acc) = true) (hq : acc[lowI (fldC f.name) acc]? = some q) : putF acc f = if q = f then some acc else none := by
  unfold putF; rw [h, hq]; simp
theorem eqAt_some {D : Type} {c : D → Int} {l : List D} {p : Nat} (h : eqAt c l p = true) : ∃ d, l[p]? = some d := by
  unfold eqAt at h
  cases hd : l[p]? with
  | none => rw [hd] at h; simp at h
  | some d => exact ⟨d, rfl⟩

set_option maxRecDepth 100000 in
set_option maxHeartbeats 8000000 in
theorem fieldsOfO_any (l : List Knd) (name : ByteArray) (v : Value) (w : World) (hv : Sl kndL w v l) (hnm : Sm name) (hll : l.length ≤ 13) (hofs : ∀ k ∈ l, k.ofs.length ≤ 64) (hfl : ∀ k ∈ l, k.fields.length ≤ 8) :
    Calls Tryd.prog 85 #[v, .string name] w (FieldsO l name w) := by
  obtain ⟨A, c, rfl, _, _⟩ := hv.form
  have HV := Lib.hid hv
  have HFL := Lib.hid hfl
  have hkc := kinOf_any l name _ w hv hnm (by omega) hofs
  have HM : Hid (∀ s ∈ kinL l name, ∃ (i : Nat) (k : Knd), kFind l s = i ∧ l[i]? = some k ∧ fldsFor l s = k.fields) := kin_known
  have HF : Hid (fieldsOf l name = (((kinL l name).drop 0).flatMap (fldsFor l)).foldlM putF []) := by unfold Hid; rw [fieldsOf_eq, List.drop_zero]; rfl
  have hkl := kinL_len l name
  clear hv hfl hofs
  go_enter Tryd.func85, Tryd.ntmps85
  go_wp2_with fail
  refine hkc.mono ?_
  clear hkc
  rintro e w1 ⟨kv, rfl, hks, hb1⟩
  generalize kinL l name = ks at *
  obtain ⟨Ak, ck, rfl, _, _⟩ := hks.form
  have hks13 : (ks.length : Int) ≤ 13 := by omega
  go_wp2_with fail
  go_loopw [6, 17] (fun ov i wr => ∃ (k : Nat) (acc : List Fld), k ≤ ks.length ∧ i = .int .i64 k ∧ Below w1.heap.size w1 wr ∧ Own wr w1.heap.size 59 4 ov acc.length (acc.flatMap Fld.enc) ∧ acc.length ≤ 8 * k ∧
    Hid (∀ x ∈ acc, x.ok) ∧ Hid (Rise acc) ∧ Hid (fieldsOf l name = ((ks.drop k).flatMap (fldsFor l)).foldlM putF acc)) (fun _ i _ => ks.length - (intOf i).toNat)
  case atStart => exact ⟨0, [], Nat.zero_le _, rfl, Below.refl _ _, Own.nil _ _ _ _, Nat.le_refl _, (by intro x hx; simp at hx), List.Pairwise.nil, HF⟩
  case round =>
    obtain ⟨k, acc, hk, rfl, hbr, hown, hacc, HO, HR, HE⟩ := hrel
    by_cases hlt : k < ks.length
    · obtain ⟨s, hs⟩ : ∃ s, ks[k]? = some s := ⟨_, List.getElem?_eq_getElem hlt⟩
      obtain ⟨idx, kd, hidx, hkd, hfs⟩ := HM.out s (List.mem_of_getElem? hs)
      have HE2 : Hid (fieldsOf l name = (kd.fields ++ (ks.drop (k + 1)).flatMap (fldsFor l)).foldlM putF acc) := by
        unfold Hid; rw [HE.out, drop_cons hs, List.flatMap_cons, hfs]
      obtain ⟨bk, ok, rfl, hss, x0⟩ := str_at (hks.below hbr) hs
      have hbwr := hb1.trans (hbr.mono hb1.size)
      have hc := kFind_any l s _ wr (HV.out.below hbwr)
      rw [hidx] at hc
      have hkf : kd.fields.length ≤ 8 := HFL.out kd (List.mem_of_getElem? hkd)
      have hil : idx < l.length := (List.getElem?_eq_some_iff.1 hkd).1
      have hil' : (idx : Int) < (l.length : Int) := by omega
      have hlt' : (k : Int) < (ks.length : Int) := by omega
      have HKD := Lib.hid hkd
      have HKS := Lib.hid hks
      clear HE hs hidx hfs hkd hks hkl
      go_wp2_with fail
      refine hc.mono ?_
      clear hc
      rintro e w2 ⟨rfl, hb2⟩
      have hbw2 := hbwr.trans (hb2.mono hbwr.size)
      have hbr2 := hbr.trans (hb2.mono hbr.size)
      have hown2 := hown.below hb2
      obtain ⟨bl, ol, rfl, u, x, _, _, hfx, _, _, c2w⟩ := knd_at HV.out HKD.out
      have c2 := cell_below hbw2 c2w
      obtain ⟨Af, cf, rfl, _, _⟩ := hfx.form
      clear hown hbr hbwr hb2 x0 c2w
      go_wp2_with fail
      go_loopw [6, 29] (fun ov j wx => ∃ (m : Nat) (acc : List Fld), m ≤ kd.fields.length ∧ j = .int .i64 m ∧ Below w1.heap.size w1 wx ∧ Own wx w1.heap.size 59 4 ov acc.length (acc.flatMap Fld.enc) ∧ acc.length ≤ 8 * k + m ∧
        Hid (∀ x ∈ acc, x.ok) ∧ Hid (Rise acc) ∧ Hid (fieldsOf l name = (kd.fields.drop m ++ (ks.drop (k + 1)).flatMap (fldsFor l)).foldlM putF acc)) (fun _ j _ => kd.fields.length - (intOf j).toNat)
      case atStart => exact ⟨0, acc, Nat.zero_le _, rfl, hbr2, hown2, hacc, HO, HR, by unfold Hid; rw [List.drop_zero]; exact HE2.out⟩
      case round =>
        clear hacc HO HR HE2 hown2 hbr2 hbw2 c2
        obtain ⟨m, acc, hm, rfl, hbx, hown, hacc, HO, HR, HE⟩ := hrel
        obtain ⟨Ao, co, rfl, _, _⟩ := hown.form
        have hbwx := hb1.trans (hbx.mono hb1.size)
        by_cases hm2 : m < kd.fields.length
        · obtain ⟨f, hf⟩ : ∃ f, kd.fields[m]? = some f := ⟨_, List.getElem?_eq_getElem hm2⟩
          obtain ⟨bf, of, rfl, hok, y0, y1, y2, y3⟩ := fld_at (hfx.below hbwx) hf
          have HE3 : Hid (fieldsOf l name = (f :: (kd.fields.drop (m + 1) ++ (ks.drop (k + 1)).flatMap (fldsFor l))).foldlM putF acc) := by
            unfold Hid; rw [HE.out, drop_cons hf]; rfl
          have HS := Lib.hid (fold_step HE3.out)
          obtain ⟨z0, z1, z2, z3⟩ := cell_box4 wr (.string f.name) (.int .i64 f.ty) (.bool f.must) (.bool f.key) 59
          have hbB : Below w1.heap.size w1 (wr.alloc (.cells #[.string f.name, .int .i64 f.ty, .bool f.must, .bool f.key] 59)) := hbx.alloc hbx.size _
          have hownB := hown.alloc (.cells #[.string f.name, .int .i64 f.ty, .bool f.must, .bool f.key] 59)
          have hbs := bs_fld 105 #[] (by intro args w; kernel_rfl) (.string f.name) (fldC f.name) acc _ _ (hownB.flds HO.out)
            (fun d u wr' _ hu => by obtain ⟨rfl, _⟩ := hu; exact fieldsOf1_any d f.name wr') (lowI (fldC f.name) acc) (by omega) (lowI_le _ _) (fun i d hi hd => low_lt hi hd) (fun i d hi hd => low_ge (rise_chain HR.out) (fldC_mono _) hi hd)
          have hpl := lowI_le (fldC f.name) acc
          have hm2' : (m : Int) < (kd.fields.length : Int) := by omega
          have hm8 : (m : Int) ≤ 8 := by omega
          have hacc' : (acc.length : Int) ≤ 1000 := by omega
          have hokf : ∀ x ∈ acc, x.ok := HO.out
          have HOF : Hid (∀ acc', putF acc f = some acc' → (∀ x ∈ acc', x.ok) ∧ Rise acc') := fun acc' he =>
            ⟨fun x hx => by rcases (mem_putF he x).1 hx with h | rfl; exact hokf x h; exact hok, putF_rise HR.out he⟩
          clear hokf
          cases hq : eqAt (fldC f.name) acc (lowI (fldC f.name) acc) with
          | false =>
            rw [hq] at hbs
            have HP := Lib.hid (put_new hq)
            generalize lowI (fldC f.name) acc = p at *
            clear hq hf HE HE3
            go_wp2_with fail
            refine hbs.mono ?_
            clear hbs
            rintro e w3 ⟨rfl, hb3⟩
            have hown3 := hownB.below hb3
            have hb13 := hbB.trans (hb3.mono hbB.size)
            have q0 := cell_below hb3 z0
            have q1 := cell_below hb3 z1
            have q2 := cell_below hb3 z2
            have q3 := cell_below hb3 z3
            clear z0 z1 z2 z3 hownB hbB y0 y1 y2 y3
            go_wp2_with fail
            refine (ins_fld (w3.alloc (.cells #[.string f.name, .int .i64 f.ty, .bool f.must, .bool f.key] 59)) w1.heap.size _ acc.length (acc.flatMap Fld.enc) (hown3.alloc _) p hpl w3.heap.size f.enc rfl (heap_alloc_new _ _) f.enc_one (oneCell_flat Fld.enc_one acc)
              (fun e => by have := (hown3.lt _ e).2; omega) (by have := hb13.size; simp; omega) (by omega)).mono ?_
            rintro e w4 ⟨v', rfl, hown4, hg4⟩
            have hl' : (acc.take p ++ f :: acc.drop p).length = acc.length + 1 := by simp; omega
            rw [flat_insert Fld.enc_len acc p hpl, ← hl'] at hown4
            have hb4 : Below w1.heap.size w1 w4 := (hb13.alloc hb13.size _).grown hg4 (by have := hb13.size; simp; omega) (fun kk e => (hown3.lt kk e).1)
            have HN := Lib.hid (HS.out.1 _ HP.out)
            have HO2 := Lib.hid (HOF.out _ HP.out).1
            have HR2 := Lib.hid (HOF.out _ HP.out).2
            have hl2 : (acc.take p ++ f :: acc.drop p).length ≤ 8 * k + (m + 1) := by omega
            clear hg4 HS HP HOF q0 q1 q2 q3
            generalize acc.take p ++ f :: acc.drop p = acc' at *
            obtain ⟨A', c', rfl, _, _⟩ := hown4.form
            clear hl'
            go_wp2_with fail
            go_roundw
            case rel => exact ⟨m + 1, acc', by omega, by go_num, hb4, hown4, hl2, HO2, HR2, HN⟩
            case measure => simp [intOf]; omega
          | true =>
            obtain ⟨q, hq2⟩ := eqAt_some hq
            rw [hq] at hbs
            have HP := Lib.hid (put_old hq hq2)
            have hplt : lowI (fldC f.name) acc < acc.length := (List.getElem?_eq_some_iff.1 hq2).1
            generalize lowI (fldC f.name) acc = p at *
            have hplt' : (p : Int) < (acc.length : Int) := by omega
            have HQ2 := Lib.hid hq2
            clear hq hf HE HE3 hq2
            go_wp2_with fail
            refine hbs.mono ?_
            clear hbs
            rintro e w3 ⟨rfl, hb3⟩
            have hown3 := hownB.below hb3
            have hb13 := hbB.trans (hb3.mono hbB.size)
            have q0 := cell_below hb3 z0
            have q1 := cell_below hb3 z1
            have q2 := cell_below hb3 z2
            have q3 := cell_below hb3 z3
            obtain ⟨bo, oo, hAo, _, r0, r1, r2, r3⟩ := fld_at (hown3.flds HO.out) HQ2.out
            subst hAo
            have hneq := fld_neq q f
            have hgd := fld_guard
            clear z0 z1 z2 z3 hownB hbB y0 y1 y2 y3
            by_cases hqf : q = f
            · have hd : decide (q = f) = true := decide_eq_true hqf
              have HP2 : Hid (putF acc f = some acc) := by unfold Hid; rw [HP.out, if_pos hqf]
              rw [hd] at hneq
              have HN := Lib.hid (HS.out.1 _ HP2.out)
              clear HS HP HP2 HOF hd hqf HQ2
              go_wp2_with fail
              go_quiet (fail)
              go_wp2_with fail
              go_roundw
              case rel => exact ⟨m + 1, acc, by omega, by go_num, below_drewN hb13 _, hown3.drewN _, by omega, HO, HR, HN⟩
              case measure => simp [intOf]; omega
            · have hd : decide (q = f) = false := decide_eq_false hqf
              have HP2 : Hid (putF acc f = none) := by unfold Hid; rw [HP.out, if_neg hqf]
              rw [hd] at hneq
              have HN := Lib.hid (HS.out.2 HP2.out)
              clear HS HP HP2 HOF hd hqf HQ2
              go_wp2_with fail
              go_quiet (fail)
              go_wp2_with fail
              go_ret2
              refine ⟨.slice none 0 0, ?_, ?_, below_drewN (hb1.trans (hb13.mono hb1.size)) _⟩
              · rw [HN.out]; rfl
              · rw [HN.out]; exact ⟨Own.nil _ _ _ _, fun x hx => by cases hx⟩
        · obtain rfl : m = kd.fields.length := by omega
          have HE3 : Hid (fieldsOf l name = ((ks.drop (k + 1)).flatMap (fldsFor l)).foldlM putF acc) := by unfold Hid; rw [HE.out, List.drop_length]; rfl
          clear HE
          go_wp2_with fail
          go_roundw
          case rel => exact ⟨k + 1, acc, by omega, by go_num, hbx, hown, by omega, HO, HR, HE3⟩
          case measure => simp [intOf]; omega
    · obtain rfl : k = ks.length := by omega
      have HQ : Hid (fieldsOf l name = some acc) := by unfold Hid; rw [HE.out, List.drop_length]; rfl
      obtain ⟨Ao, co, rfl, _, _⟩ := hown.form
      go_wp2_with fail
      go_ret2
      refine ⟨.slice Ao acc.length co, ?_, ?_, hb1.trans (hbr.mono hb1.size)⟩
      · rw [HQ.out]; rfl
      · rw [HQ.out]; exact ⟨hown.mono hb1.size, HO.out⟩
theorem fieldsOf_any (l : List Knd) (name : ByteArray) (v : Value) (w : World) (hv : Sl kndL w v l) (hnm : Sm name) (hll : l.length ≤ 13) (hofs : ∀ k ∈ l, k.ofs.length ≤ 64) (hfl : ∀ k ∈ l, k.fields.length ≤ 8) :
    Calls Tryd.prog 85 #[v, .string name] w (FieldsR l name w) :=
  (fieldsOfO_any l name v w hv hnm hll hofs hfl).mono fun _ _ ⟨u, h1, h2, h3⟩ => ⟨u, h1, h2.1.flds h2.2, h3⟩
end Go.Proofs.YtgioaphnadncfaaDoor
