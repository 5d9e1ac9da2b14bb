/- Parts: Eqs, KinH, Chk1, Chk2. -/
import Derived.Test.YtkegnmclhkpbkaaGreatMg13
import Derived.Laws.StructEq
import Derived.Test.YtkegnmclhkpbkaaGreatMg02
import Derived.Test.YtkegnmclhkpbkaaGreatMg12
import Derived.Test.YtkegnmclhkpbkaaGreatMg06
import Derived.Deep.DeepCutAuto
import Derived.Test.YtkegnmclhkpbkaaGreatMg05
/- Plain laws of the model: '==' and '!=' between the program's structs of flat cells. No condition. -/
namespace Go.Proofs.YtkegnmclhkpbkaaGreat
open Go Go.RowKit

theorem bytes_eq (a b : ByteArray) : (a.toList = b.toList) = (a = b) := by
  have := bytes_beq a b
  apply propext
  constructor
  · intro h; rw [h] at this; simpa using this.symm
  · intro h; rw [h]
theorem fld_guard (op : BinOp) (a b : Operand) (xs ys : Array Value) (w : World) : (eqGuard op 135 a b (.agg xs) (.agg ys)).run Tryz.prog w = .ok () w := run_eqGuard_agg w op 135 a b xs ys (by kernel_rfl)
theorem fld_same (d : Nat) (x y : Fld) (w : World) : (Op.equalIn (d + 2) 135 (.agg #[.string x.name, .int .i64 x.ty, .bool x.must, .bool x.key]) (.agg #[.string y.name, .int .i64 y.ty, .bool y.must, .bool y.key])).run Tryz.prog w = .ok (decide (x = y)) w := by
  have hS : Tryz.prog.underlying 135 = some (.struct (Tryz.prog.fieldsOf 135)) := by kernel_rfl
  have hp : Tryz.prog.stoodInHeld 135 = false := by kernel_rfl
  have e1 := Tryz.underlying9
  have e2 := Tryz.underlying3
  have e3 := Tryz.underlying4
  rw [run_equalIn_agg w (d + 1) 135 _ _ hS hp]
  simp only [Program.fieldsOf, Tryz.underlying135]
  go_simp
  simp only [bytes_eq]
  cases x; cases y
  simp only [Fld.mk.injEq]
  rename_i a b c d a' b' c' d'
  by_cases h1 : a = a' <;> by_cases h2 : b = b' <;> by_cases h3 : c = c' <;> by_cases h4 : d = d' <;> simp [h1, h2, h3, h4]
theorem fld_eql (x y : Fld) (w : World) : (binOp .eql 135 (.agg #[.string x.name, .int .i64 x.ty, .bool x.must, .bool x.key]) (.agg #[.string y.name, .int .i64 y.ty, .bool y.must, .bool y.key])).run Tryz.prog w = .ok (.bool (decide (x = y))) w := by
  rw [run_eql_struct, show (10000 : Nat) = 9998 + 2 from rfl, fld_same]; rfl
theorem fld_neq (x y : Fld) (w : World) : (binOp .neq 135 (.agg #[.string x.name, .int .i64 x.ty, .bool x.must, .bool x.key]) (.agg #[.string y.name, .int .i64 y.ty, .bool y.must, .bool y.key])).run Tryz.prog w = .ok (.bool (!decide (x = y))) w := by
  rw [run_neq_struct, show (10000 : Nat) = 9998 + 2 from rfl, fld_same]; rfl
end Go.Proofs.YtkegnmclhkpbkaaGreat

/- Contract: kind.FieldsOf: a kind's fields, all of its kin's. -/
namespace Go.Proofs.YtkegnmclhkpbkaaGreat
open Go Go.RowKit

def FieldsR (l : List Knd) (name : ByteArray) (w : World) (e : Ending) (w' : World) : Prop :=
  ∃ u, e = .returned (.tuple #[u, .bool (fieldsOf l name).isSome]) ∧ Sl fldL w' u ((fieldsOf l name).getD []) ∧ Below w.heap.size w w'
/-- The same, the fields the call's own. -/
def FieldsO (l : List Knd) (name : ByteArray) (w : World) (e : Ending) (w' : World) : Prop :=
  ∃ u, e = .returned (.tuple #[u, .bool (fieldsOf l name).isSome]) ∧ (Own w' w.heap.size 135 4 u ((fieldsOf l name).getD []).length (((fieldsOf l name).getD []).flatMap Fld.enc) ∧ ∀ x ∈ (fieldsOf l name).getD [], x.ok) ∧ Below w.heap.size w w'
theorem kin_known {l : List Knd} {name : ByteArray} : ∀ s ∈ kinL l name, ∃ (i : Nat) (k : Knd), kFind l s = i ∧ l[i]? = some k ∧ fldsFor l s = k.fields := by
  intro s hs
  obtain ⟨⟨k, hk, rfl⟩, _⟩ := mem_kinL.1 hs
  obtain ⟨i, x, h1, h2, h3, _⟩ := kFind_pos (kFind_mem hk)
  refine ⟨i, x, h1, h2, ?_⟩
  unfold fldsFor
  rw [find_of_kFind h1 h2]
theorem kinL_len (l : List Knd) (name : ByteArray) : (kinL l name).length ≤ l.length := by
  unfold kinL
  rw [List.length_map]
  exact List.length_filter_le _ _
theorem fold_step {f : Fld} {rest acc : List Fld} {r : Option (List Fld)} (h : r = (f :: rest).foldlM putF acc) : (∀ acc', putF acc f = some acc' → r = rest.foldlM putF acc') ∧ (putF acc f = none → r = none) := by
  rw [h, List.foldlM_cons]
  exact ⟨fun acc' e => by rw [e]; rfl, fun e => by rw [e]; rfl⟩
theorem put_new {acc : List Fld} {f : Fld} (h : eqAt (fldC f.name) acc (lowI (fldC f.name) acc) = false) : putF acc f = some (acc.take (lowI (fldC f.name) acc) ++ f :: acc.drop (lowI (fldC f.name) acc)) := by
  unfold putF; rw [h]; simp
theorem put_old {acc : List Fld} {f q : Fld} (h : eqAt (fldC f.name) acc (lowI (fldC f.name) acc) = true) (hq : acc[lowI (fldC f.name) acc]? = some q) : putF acc f = if q = f then some acc else none := by
  unfold putF; rw [h, hq]; simp
theorem eqAt_some {D : Type} {c : D → Int} {l : List D} {p : Nat} (h : eqAt c l p = true) : ∃ d, l[p]? = some d := by
  unfold eqAt at h
  cases hd : l[p]? with
  | none => rw [hd] at h; simp at h
  | some d => exact ⟨d, rfl⟩

set_option maxRecDepth 100000 in
set_option maxHeartbeats 8000000 in
theorem fieldsOfO_any (l : List Knd) (name : ByteArray) (v : Value) (w : World) (hv : Sl kndL w v l) (hnm : Sm name) (hll : l.length ≤ 13) (hofs : ∀ k ∈ l, k.ofs.length ≤ 64) (hfl : ∀ k ∈ l, k.fields.length ≤ 8) :
    Calls Tryz.prog 101 #[v, .string name] w (FieldsO l name w) := by
  obtain ⟨A, c, rfl, _, _⟩ := hv.form
  have HV := Lib.hid hv
  have HFL := Lib.hid hfl
  have hkc := kinOf_any l name _ w hv hnm (by omega) hofs
  have HM : Hid (∀ s ∈ kinL l name, ∃ (i : Nat) (k : Knd), kFind l s = i ∧ l[i]? = some k ∧ fldsFor l s = k.fields) := kin_known
  have HF : Hid (fieldsOf l name = (((kinL l name).drop 0).flatMap (fldsFor l)).foldlM putF []) := by unfold Hid; rw [fieldsOf_eq, List.drop_zero]; rfl
  have hkl := kinL_len l name
  clear hv hfl hofs
  go_enter Tryz.func101, Tryz.ntmps101
  go_wp2_with fail
  refine hkc.mono ?_
  clear hkc
  rintro e w1 ⟨kv, rfl, hks, hb1⟩
  generalize kinL l name = ks at *
  obtain ⟨Ak, ck, rfl, _, _⟩ := hks.form
  have hks13 : (ks.length : Int) ≤ 13 := by omega
  go_wp2_with fail
  go_loopw [6, 17] (fun ov i wr => ∃ (k : Nat) (acc : List Fld), k ≤ ks.length ∧ i = .int .i64 k ∧ Below w1.heap.size w1 wr ∧ Own wr w1.heap.size 135 4 ov acc.length (acc.flatMap Fld.enc) ∧ acc.length ≤ 8 * k ∧
    Hid (∀ x ∈ acc, x.ok) ∧ Hid (Rise acc) ∧ Hid (fieldsOf l name = ((ks.drop k).flatMap (fldsFor l)).foldlM putF acc)) (fun _ i _ => ks.length - (intOf i).toNat)
  case atStart => exact ⟨0, [], Nat.zero_le _, rfl, Below.refl _ _, Own.nil _ _ _ _, Nat.le_refl _, (by intro x hx; simp at hx), List.Pairwise.nil, HF⟩
  case round =>
    obtain ⟨k, acc, hk, rfl, hbr, hown, hacc, HO, HR, HE⟩ := hrel
    by_cases hlt : k < ks.length
    · obtain ⟨s, hs⟩ : ∃ s, ks[k]? = some s := ⟨_, List.getElem?_eq_getElem hlt⟩
      obtain ⟨idx, kd, hidx, hkd, hfs⟩ := HM.out s (List.mem_of_getElem? hs)
      have HE2 : Hid (fieldsOf l name = (kd.fields ++ (ks.drop (k + 1)).flatMap (fldsFor l)).foldlM putF acc) := by
        unfold Hid; rw [HE.out, drop_cons hs, List.flatMap_cons, hfs]
      obtain ⟨bk, ok, rfl, hss, x0⟩ := str_at (hks.below hbr) hs
      have hbwr := hb1.trans (hbr.mono hb1.size)
      have hc := kFind_any l s _ wr (HV.out.below hbwr)
      rw [hidx] at hc
      have hkf : kd.fields.length ≤ 8 := HFL.out kd (List.mem_of_getElem? hkd)
      have hil : idx < l.length := (List.getElem?_eq_some_iff.1 hkd).1
      have hil' : (idx : Int) < (l.length : Int) := by omega
      have hlt' : (k : Int) < (ks.length : Int) := by omega
      have HKD := Lib.hid hkd
      have HKS := Lib.hid hks
      clear HE hs hidx hfs hkd hks hkl
      go_wp2_with fail
      refine hc.mono ?_
      clear hc
      rintro e w2 ⟨rfl, hb2⟩
      have hbw2 := hbwr.trans (hb2.mono hbwr.size)
      have hbr2 := hbr.trans (hb2.mono hbr.size)
      have hown2 := hown.below hb2
      obtain ⟨bl, ol, rfl, u, x, _, _, hfx, _, _, c2w⟩ := knd_at HV.out HKD.out
      have c2 := cell_below hbw2 c2w
      obtain ⟨Af, cf, rfl, _, _⟩ := hfx.form
      clear hown hbr hbwr hb2 x0 c2w
      go_wp2_with fail
      go_loopw [6, 29] (fun ov j wx => ∃ (m : Nat) (acc : List Fld), m ≤ kd.fields.length ∧ j = .int .i64 m ∧ Below w1.heap.size w1 wx ∧ Own wx w1.heap.size 135 4 ov acc.length (acc.flatMap Fld.enc) ∧ acc.length ≤ 8 * k + m ∧
        Hid (∀ x ∈ acc, x.ok) ∧ Hid (Rise acc) ∧ Hid (fieldsOf l name = (kd.fields.drop m ++ (ks.drop (k + 1)).flatMap (fldsFor l)).foldlM putF acc)) (fun _ j _ => kd.fields.length - (intOf j).toNat)
      case atStart => exact ⟨0, acc, Nat.zero_le _, rfl, hbr2, hown2, hacc, HO, HR, by unfold Hid; rw [List.drop_zero]; exact HE2.out⟩
      case round =>
        clear hacc HO HR HE2 hown2 hbr2 hbw2 c2
        obtain ⟨m, acc, hm, rfl, hbx, hown, hacc, HO, HR, HE⟩ := hrel
        obtain ⟨Ao, co, rfl, _, _⟩ := hown.form
        have hbwx := hb1.trans (hbx.mono hb1.size)
        by_cases hm2 : m < kd.fields.length
        · obtain ⟨f, hf⟩ : ∃ f, kd.fields[m]? = some f := ⟨_, List.getElem?_eq_getElem hm2⟩
          obtain ⟨bf, of, rfl, hok, y0, y1, y2, y3⟩ := fld_at (hfx.below hbwx) hf
          have HE3 : Hid (fieldsOf l name = (f :: (kd.fields.drop (m + 1) ++ (ks.drop (k + 1)).flatMap (fldsFor l))).foldlM putF acc) := by
            unfold Hid; rw [HE.out, drop_cons hf]; rfl
          have HS := Lib.hid (fold_step HE3.out)
          obtain ⟨z0, z1, z2, z3⟩ := cell_box4 wr (.string f.name) (.int .i64 f.ty) (.bool f.must) (.bool f.key) 135
          have hbB : Below w1.heap.size w1 (wr.alloc (.cells #[.string f.name, .int .i64 f.ty, .bool f.must, .bool f.key] 135)) := hbx.alloc hbx.size _
          have hownB := hown.alloc (.cells #[.string f.name, .int .i64 f.ty, .bool f.must, .bool f.key] 135)
          have hbs := bs_fld 122 #[] (by intro args w; kernel_rfl) (.string f.name) (fldC f.name) acc _ _ (hownB.flds HO.out)
            (fun d u wr' _ hu => by obtain ⟨rfl, _⟩ := hu; exact fieldsOf1_any d f.name wr') (lowI (fldC f.name) acc) (by omega) (lowI_le _ _) (fun i d hi hd => low_lt hi hd) (fun i d hi hd => low_ge (rise_chain HR.out) (fldC_mono _) hi hd)
          have hpl := lowI_le (fldC f.name) acc
          have hm2' : (m : Int) < (kd.fields.length : Int) := by omega
          have hm8 : (m : Int) ≤ 8 := by omega
          have hacc' : (acc.length : Int) ≤ 1000 := by omega
          have hokf : ∀ x ∈ acc, x.ok := HO.out
          have HOF : Hid (∀ acc', putF acc f = some acc' → (∀ x ∈ acc', x.ok) ∧ Rise acc') := fun acc' he =>
            ⟨fun x hx => by rcases (mem_putF he x).1 hx with h | rfl; exact hokf x h; exact hok, putF_rise HR.out he⟩
          clear hokf
          cases hq : eqAt (fldC f.name) acc (lowI (fldC f.name) acc) with
          | false =>
            rw [hq] at hbs
            have HP := Lib.hid (put_new hq)
            generalize lowI (fldC f.name) acc = p at *
            clear hq hf HE HE3
            go_wp2_with fail
            refine hbs.mono ?_
            clear hbs
            rintro e w3 ⟨rfl, hb3⟩
            have hown3 := hownB.below hb3
            have hb13 := hbB.trans (hb3.mono hbB.size)
            have q0 := cell_below hb3 z0
            have q1 := cell_below hb3 z1
            have q2 := cell_below hb3 z2
            have q3 := cell_below hb3 z3
            clear z0 z1 z2 z3 hownB hbB y0 y1 y2 y3
            go_wp2_with fail
            refine (ins_fld (w3.alloc (.cells #[.string f.name, .int .i64 f.ty, .bool f.must, .bool f.key] 135)) w1.heap.size _ acc.length (acc.flatMap Fld.enc) (hown3.alloc _) p hpl w3.heap.size f.enc rfl (heap_alloc_new _ _) f.enc_one (oneCell_flat Fld.enc_one acc)
              (fun e => by have := (hown3.lt _ e).2; omega) (by have := hb13.size; simp; omega) (by omega)).mono ?_
            rintro e w4 ⟨v', rfl, hown4, hg4⟩
            have hl' : (acc.take p ++ f :: acc.drop p).length = acc.length + 1 := by simp; omega
            rw [flat_insert Fld.enc_len acc p hpl, ← hl'] at hown4
            have hb4 : Below w1.heap.size w1 w4 := (hb13.alloc hb13.size _).grown hg4 (by have := hb13.size; simp; omega) (fun kk e => (hown3.lt kk e).1)
            have HN := Lib.hid (HS.out.1 _ HP.out)
            have HO2 := Lib.hid (HOF.out _ HP.out).1
            have HR2 := Lib.hid (HOF.out _ HP.out).2
            have hl2 : (acc.take p ++ f :: acc.drop p).length ≤ 8 * k + (m + 1) := by omega
            clear hg4 HS HP HOF q0 q1 q2 q3
            generalize acc.take p ++ f :: acc.drop p = acc' at *
            obtain ⟨A', c', rfl, _, _⟩ := hown4.form
            clear hl'
            go_wp2_with fail
            go_roundw
            case rel => exact ⟨m + 1, acc', by omega, by go_num, hb4, hown4, hl2, HO2, HR2, HN⟩
            case measure => simp [intOf]; omega
          | true =>
            obtain ⟨q, hq2⟩ := eqAt_some hq
            rw [hq] at hbs
            have HP := Lib.hid (put_old hq hq2)
            have hplt : lowI (fldC f.name) acc < acc.length := (List.getElem?_eq_some_iff.1 hq2).1
            generalize lowI (fldC f.name) acc = p at *
            have hplt' : (p : Int) < (acc.length : Int) := by omega
            have HQ2 := Lib.hid hq2
            clear hq hf HE HE3 hq2
            go_wp2_with fail
            refine hbs.mono ?_
            clear hbs
            rintro e w3 ⟨rfl, hb3⟩
            have hown3 := hownB.below hb3
            have hb13 := hbB.trans (hb3.mono hbB.size)
            have q0 := cell_below hb3 z0
            have q1 := cell_below hb3 z1
            have q2 := cell_below hb3 z2
            have q3 := cell_below hb3 z3
            obtain ⟨bo, oo, hAo, _, r0, r1, r2, r3⟩ := fld_at (hown3.flds HO.out) HQ2.out
            subst hAo
            have hneq := fld_neq q f
            have hgd := fld_guard
            clear z0 z1 z2 z3 hownB hbB y0 y1 y2 y3
            by_cases hqf : q = f
            · have hd : decide (q = f) = true := decide_eq_true hqf
              have HP2 : Hid (putF acc f = some acc) := by unfold Hid; rw [HP.out, if_pos hqf]
              rw [hd] at hneq
              have HN := Lib.hid (HS.out.1 _ HP2.out)
              clear HS HP HP2 HOF hd hqf HQ2
              go_wp2_with fail
              go_quiet (fail)
              go_wp2_with fail
              go_roundw
              case rel => exact ⟨m + 1, acc, by omega, by go_num, below_drewN hb13 _, hown3.drewN _, by omega, HO, HR, HN⟩
              case measure => simp [intOf]; omega
            · have hd : decide (q = f) = false := decide_eq_false hqf
              have HP2 : Hid (putF acc f = none) := by unfold Hid; rw [HP.out, if_neg hqf]
              rw [hd] at hneq
              have HN := Lib.hid (HS.out.2 HP2.out)
              clear HS HP HP2 HOF hd hqf HQ2
              go_wp2_with fail
              go_quiet (fail)
              go_wp2_with fail
              go_ret2
              refine ⟨.slice none 0 0, ?_, ?_, below_drewN (hb1.trans (hb13.mono hb1.size)) _⟩
              · rw [HN.out]; rfl
              · rw [HN.out]; exact ⟨Own.nil _ _ _ _, fun x hx => by cases hx⟩
        · obtain rfl : m = kd.fields.length := by omega
          have HE3 : Hid (fieldsOf l name = ((ks.drop (k + 1)).flatMap (fldsFor l)).foldlM putF acc) := by unfold Hid; rw [HE.out, List.drop_length]; rfl
          clear HE
          go_wp2_with fail
          go_roundw
          case rel => exact ⟨k + 1, acc, by omega, by go_num, hbx, hown, by omega, HO, HR, HE3⟩
          case measure => simp [intOf]; omega
    · obtain rfl : k = ks.length := by omega
      have HQ : Hid (fieldsOf l name = some acc) := by unfold Hid; rw [HE.out, List.drop_length]; rfl
      obtain ⟨Ao, co, rfl, _, _⟩ := hown.form
      go_wp2_with fail
      go_ret2
      refine ⟨.slice Ao acc.length co, ?_, ?_, hb1.trans (hbr.mono hb1.size)⟩
      · rw [HQ.out]; rfl
      · rw [HQ.out]; exact ⟨hown.mono hb1.size, HO.out⟩
theorem fieldsOf_any (l : List Knd) (name : ByteArray) (v : Value) (w : World) (hv : Sl kndL w v l) (hnm : Sm name) (hll : l.length ≤ 13) (hofs : ∀ k ∈ l, k.ofs.length ≤ 64) (hfl : ∀ k ∈ l, k.fields.length ≤ 8) :
    Calls Tryz.prog 101 #[v, .string name] w (FieldsR l name w) :=
  (fieldsOfO_any l name v w hv hnm hll hofs hfl).mono fun _ _ ⟨u, h1, h2, h3⟩ => ⟨u, h1, h2.1.flds h2.2, h3⟩
end Go.Proofs.YtkegnmclhkpbkaaGreat

/- Contract: a checker and a record. No condition. -/
namespace Go.Proofs.YtkegnmclhkpbkaaGreat
open Go Go.RowKit

/-- Which type a field of a name has: the last one's; 0: there is none. -/
def tyF (fs : List Fld) : ByteArray → Int := fs.foldl (fun F f => fun s => if f.name = s then f.ty else F s) (fun _ => 0)
theorem tyF_snoc (fs : List Fld) (f : Fld) : tyF (fs ++ [f]) = fun s => if f.name = s then f.ty else tyF fs s := by simp [tyF]
def badF (fs : List Fld) (p : Prp) : Bool := !decide (tyF fs p.name = p.v.ty)
def lackF (n : Nod) (f : Fld) : Bool := f.must && !rhas n.props f.name
def recF (fs : List Fld) (n : Nod) : List Flt := (n.props.filter (badF fs)).map (fun p => ⟨2, n.id, p.name⟩) ++ (fs.filter (lackF n)).map (fun f => ⟨3, n.id, f.name⟩)
theorem take_snocF {D : Type} {l : List D} {k : Nat} {d : D} (h : l[k]? = some d) : l.take (k + 1) = l.take k ++ [d] := by rw [List.take_add_one, h]; rfl
theorem filt_snoc {D : Type} {l : List D} {k : Nat} {d : D} (p : D → Bool) (f : D → Flt) (h : l[k]? = some d) : ((l.take (k + 1)).filter p).map f = ((l.take k).filter p).map f ++ if p d then [f d] else [] := by
  rw [take_snocF h, List.filter_append, List.map_append]
  cases hp : p d <;> simp [hp]
theorem filt_le {D : Type} (l : List D) (k : Nat) (p : D → Bool) (f : D → Flt) : (((l.take k).filter p).map f).length ≤ k := by
  rw [List.length_map]
  exact Nat.le_trans (List.length_filter_le _ _) (by rw [List.length_take]; omega)
theorem MapI.of_block {w w' : World} {b n : Nat} {F : ByteArray → Int} (h : MapI w b n F) (hb : w'.heap[b]? = w.heap[b]?) : MapI w' b n F := by
  obtain ⟨D, ⟨es, clock, h1, h2⟩, h3⟩ := h
  exact ⟨D, ⟨es, clock, hb.trans h1, h2⟩, h3⟩
theorem MapI.keep {w w' : World} {b n : Nat} {F : ByteArray → Int} (h : MapI w b n F) (hk : ∀ m c, w.heap[b]? = some (.map m c) → w'.heap[b]? = some (.map m c)) : MapI w' b n F := by
  have h0 := h
  obtain ⟨D, ⟨es, clock, h1, h2⟩, h3⟩ := h
  exact h0.of_block ((hk _ _ h1).trans h1.symm)
theorem MapI.below {w w' : World} {b n : Nat} {F : ByteArray → Int} (h : MapI w b n F) (hb : Below w.heap.size w w') : MapI w' b n F := h.of_block (hb.block _ h.lt)
set_option maxRecDepth 100000 in
set_option maxHeartbeats 8000000 in
theorem record_any (B bc : Nat) (vk vb vn vt mv out : Value) (fs : List Flt) (n : Nod) (fields : List Fld) (u v : Value) (W1 w : World) (hBW : B = W1.heap.size) (hW : Below W1.heap.size W1 w) (hC : Ck B w bc vk vb vn vt mv out fs)
    (hu : Sl prpL W1 u n.props) (hid : I64 n.id) (hch : chain prpLt n.props = true) (hpl : n.props.length ≤ 1000) (hf : Own w B 135 4 v fields.length (fields.flatMap Fld.enc)) (hfo : ∀ x ∈ fields, x.ok) (hfl : fields.length ≤ 1000) (hl : fs.length ≤ 90000) :
    Calls Tryz.prog 102 #[.pointer (some ⟨bc, 0, none⟩), .agg #[.int .i64 n.id, .string n.kind, u], v] w fun e w' => e = .returned (.tuple #[]) ∧ Told1 B w w' bc vk vb vn vt mv (fs ++ recF fields n) := by
  obtain ⟨Au, cu, rfl, _, _⟩ := hu.form
  obtain ⟨Af, cf, rfl, _, _⟩ := hf.form
  have hmm := @run_makeMap Tryz.prog
  obtain ⟨W0, hW0⟩ : ∃ W0, W0 = (w.alloc (.cells #[.int .i64 n.id, .string n.kind, .slice Au n.props.length cu] 34)).alloc (.map #[] 0) := ⟨_, rfl⟩
  have hb0 : Below w.heap.size w W0 := by rw [hW0]; exact ((Below.refl _ _).alloc (Nat.le_refl _) _).alloc (by simp) _
  have g0 : W0.heap[w.heap.size]? = some (.cells #[.int .i64 n.id, .string n.kind, .slice Au n.props.length cu] 34 (0, 0)) := by
    rw [hW0, Below.heap_alloc _ _ _ (by simp)]; exact heap_alloc_new _ _
  have hM0 : MapI W0 (w.heap.size + 1) 0 (fun _ => 0) := by
    have := MapI.made (w.alloc (.cells #[.int .i64 n.id, .string n.kind, .slice Au n.props.length cu] 34))
    rw [hW0]; simpa using this
  have hW0' := hW0.symm
  have HM0 := Lib.hid hM0
  have HF := Lib.hid hf
  have HFO := Lib.hid hfo
  have HC := Lib.hid hC
  have HU := Lib.hid hu
  have HG := Lib.hid g0
  have hwB : B ≤ w.heap.size := by rw [hBW]; exact hW.size
  have hw0 := hb0.size
  have hs0 : W0.heap.size = w.heap.size + 2 := by rw [hW0]; simp
  clear hf hC hu g0 hM0 hW0 hfo
  go_enter Tryz.func102, Tryz.ntmps102
  go_wp2_with fail
  clear hW0' hmm
  go_loopw [18] (fun i wr => ∃ k : Nat, k ≤ fields.length ∧ i = .int .i64 k ∧ Below w.heap.size w wr ∧ wr.heap[w.heap.size]? = some (.cells #[.int .i64 n.id, .string n.kind, .slice Au n.props.length cu] 34 (0, 0)) ∧ Hid (MapI wr (w.heap.size + 1) k (tyF (fields.take k))) ∧ w.heap.size + 2 ≤ wr.heap.size) (fun i _ => fields.length - (intOf i).toNat)
  case atStart => exact ⟨0, Nat.zero_le _, rfl, hb0, HG.out, HM0.out, by omega⟩
  case round =>
    clear HM0 HG
    obtain ⟨k, hk, rfl, hbr, hg, HM, hz⟩ := hrel
    by_cases hlt : k < fields.length
    · obtain ⟨f, hd⟩ : ∃ d, fields[k]? = some d := ⟨_, List.getElem?_eq_getElem hlt⟩
      obtain ⟨gb, o, rfl, hok, q0, q1, q2, q3⟩ := fld_at ((HF.out.below hbr).flds HFO.out) hd
      have hlt' : (k : Int) < (fields.length : Int) := by omega
      have ha1 : Below wr.heap.size wr (wr.alloc (.cells #[.string f.name, .int .i64 f.ty, .bool f.must, .bool f.key] 135)) := (Below.refl _ _).alloc (Nat.le_refl _) _
      obtain ⟨z0, z1, z2, z3⟩ := cell_box4 wr (.string f.name) (.int .i64 f.ty) (.bool f.must) (.bool f.key) 135
      have hnm : f.name.size ≤ maxLen := by have := hok.1; unfold Sm at this; unfold maxLen; omega
      obtain ⟨w5, hput, hM5, hg5⟩ := (HM.out.below ha1).put (by unfold maxLen; omega) hnm hok.2
      have HN : Hid (MapI w5 (w.heap.size + 1) (k + 1) (tyF (fields.take (k + 1)))) := by unfold Hid; rw [take_snocF hd, tyF_snoc]; exact hM5
      have hg1 := grown_block hg5 ((ha1.block _ (Array.getElem?_eq_some_iff.1 hg).1).trans hg) (by simp)
      have hb5 : Below w.heap.size w w5 := (hbr.alloc hbr.size _).grown hg5 (by simp; omega) (fun j e => by cases e; omega)
      have hs5 := hg5.size
      have hz5 : w.heap.size + 2 ≤ w5.heap.size := by simp at hs5; omega
      clear hd hok hM5 hg5 hs5 HM hg hbr ha1
      go_wp2_with fail
      go_roundw
      case rel => exact ⟨k + 1, by omega, by go_num, hb5, hg1, HN, hz5⟩
      case measure => simp [intOf]; omega
    · obtain rfl : k = fields.length := by omega
      rw [List.take_length] at HM
      have HBR := Lib.hid hbr
      have HMF := Lib.hid HM.out
      have HGR := Lib.hid hg
      have hC1 : Told1 B w wr bc vk vb vn vt mv fs := Told1.first hbr hwB ⟨⟨_, HC.out.below hbr⟩, Below.refl _ _, fun _ _ _ => Same.refl _ _, fun _ _ _ h => h, Nat.le_refl _⟩
      have HC1 := Lib.hid hC1
      have y2 := block_cell hg 2
      have hpl' : (n.props.length : Int) ≤ 1000 := by omega
      have HR : Hid (recF fields n = (n.props.filter (badF fields)).map (fun p => ⟨2, n.id, p.name⟩) ++ (fields.filter (lackF n)).map (fun f => ⟨3, n.id, f.name⟩)) := rfl
      clear hbr HM hC1
      go_wp2_with fail
      go_loopw [31] (fun i wx => ∃ k : Nat, k ≤ n.props.length ∧ i = .int .i64 k ∧ Hid (Told1 B w wx bc vk vb vn vt mv (fs ++ (n.props.take k |>.filter (badF fields)).map (fun p => ⟨2, n.id, p.name⟩))) ∧ wx.heap[w.heap.size]? = some (.cells #[.int .i64 n.id, .string n.kind, .slice Au n.props.length cu] 34 (0, 0)) ∧ Hid (MapI wx (w.heap.size + 1) fields.length (tyF fields)) ∧ w.heap.size + 2 ≤ wx.heap.size) (fun i _ => n.props.length - (intOf i).toNat)
      case atStart => exact ⟨0, Nat.zero_le _, rfl, by unfold Hid; simpa using HC1.out, hg, HMF, hz⟩
      case round =>
        clear HMF HC1 HGR hg y2
        obtain ⟨k, hk, rfl, HT, hg, HM, hz⟩ := hrel
        have y0 := block_cell hg 0
        have y2 := block_cell hg 2
        by_cases hlt : k < n.props.length
        · obtain ⟨p, hd⟩ : ∃ d, n.props[k]? = some d := ⟨_, List.getElem?_eq_getElem hlt⟩
          have hWr : Below W1.heap.size W1 wr := by rw [hBW] at HT; exact hW.trans HT.out.b
          obtain ⟨gb, o, rfl, hok, q0, q1, q2, q3⟩ := prp_at (HU.out.below hWr) hd
          have hlt' : (k : Int) < (n.props.length : Int) := by omega
          have ha1 : Below wr.heap.size wr (wr.alloc (.cells #[.string p.name, .int .i64 p.v.ty, .int .i64 p.v.n, .string p.v.s] 45)) := (Below.refl _ _).alloc (Nat.le_refl _) _
          obtain ⟨z0, z1, z2, z3⟩ := cell_box4 wr (.string p.name) (.int .i64 p.v.ty) (.int .i64 p.v.n) (.string p.v.s) 45
          have hnm : p.name.size ≤ maxLen := by have := hok.1; unfold Sm at this; unfold maxLen; omega
          have hlk := (HM.out.below ha1).look hnm
          have y0 := cell_below ha1 y0
          have HS := Lib.hid (filt_snoc (badF fields) (fun p => (⟨2, n.id, p.name⟩ : Flt)) hd)
          have hle := filt_le n.props k (badF fields) (fun p => (⟨2, n.id, p.name⟩ : Flt))
          have hBr : B ≤ wr.heap.size := by have := HT.out.z; omega
          have HT1 := Lib.hid (HT.out.last hBr ha1)
          have hg1 := (ha1.block _ (Array.getElem?_eq_some_iff.1 hg).1).trans hg
          have HM1 := Lib.hid (HM.out.below ha1)
          have HBD : Hid (badF fields p = !decide (tyF fields p.name = p.v.ty)) := rfl
          have HOK : Hid (Sm p.name) := hok.1
          have hz1 : w.heap.size + 2 ≤ (wr.alloc (.cells #[.string p.name, .int .i64 p.v.ty, .int .i64 p.v.n, .string p.v.s] 45)).heap.size := by simp; omega
          have hBa : B ≤ (wr.alloc (.cells #[.string p.name, .int .i64 p.v.ty, .int .i64 p.v.n, .string p.v.s] 45)).heap.size := by simp; omega
          clear hd hok HT hWr HM hg y2 ha1
          go_upto_region 10 with fail
          generalize wr.alloc (.cells #[.string p.name, .int .i64 p.v.ty, .int .i64 p.v.n, .string p.v.s] 45) = Wa at *
          generalize ht : tyF fields p.name = ty at *
          by_cases hq : ty = p.v.ty
          · have hb1 : (ty != p.v.ty) = false := by rw [bne_eq_false_iff_eq]; exact hq
            have HN : Hid (Told1 B w Wa bc vk vb vn vt mv (fs ++ ((n.props.take (k + 1)).filter (badF fields)).map (fun p => ⟨2, n.id, p.name⟩))) := by
              unfold Hid; rw [HS.out, HBD.out, decide_eq_true hq]; simpa using HT1.out
            clear hq HS HBD ht
            go_wp2_with fail
            go_roundw
            case rel => exact ⟨k + 1, by omega, by go_num, HN, hg1, HM1, hz1⟩
            case measure => simp [intOf]; omega
          · have hb1 : (ty != p.v.ty) = true := by rw [bne_iff_ne]; exact hq
            have HN : Hid (fs ++ ((n.props.take (k + 1)).filter (badF fields)).map (fun p => (⟨2, n.id, p.name⟩ : Flt)) = (fs ++ ((n.props.take k).filter (badF fields)).map (fun p => (⟨2, n.id, p.name⟩ : Flt))) ++ [⟨2, n.id, p.name⟩]) := by
              unfold Hid; rw [HS.out, HBD.out, decide_eq_false hq]; simp
            obtain ⟨out', hc⟩ := HT1.out.c
            have htell := tell_any B bc vk vb vn vt mv out' _ ⟨2, n.id, p.name⟩ Wa hBa hc ⟨⟨by show (-9223372036854775808 : Int) ≤ 2; omega, by show (2 : Int) ≤ 9223372036854775807; omega⟩, hid, HOK.out⟩ (by rw [List.length_append]; omega)
            rw [← HN.out] at htell
            clear hq HS HBD HN hc ht
            go_wp2_with fail
            refine htell.mono ?_
            clear htell
            rintro e w5 ⟨rfl, ht5⟩
            have HT5 := Lib.hid (HT1.out.trans ht5)
            have hg5 := ht5.s 34 (by decide) (by decide) _ _ _ hg1
            have HM5 := Lib.hid (HM1.out.keep (ht5.m _))
            have hz5 : w.heap.size + 2 ≤ w5.heap.size := by have := ht5.z; omega
            clear ht5
            go_wp2_with fail
            go_roundw
            case rel => exact ⟨k + 1, by omega, by go_num, HT5, hg5, HM5, hz5⟩
            case measure => simp [intOf]; omega
        · obtain rfl : k = n.props.length := by omega
          rw [List.take_length] at HT
          generalize hl1 : (n.props.filter (badF fields)).map (fun p => (⟨2, n.id, p.name⟩ : Flt)) = l1 at *
          have hl1n : l1.length ≤ 1000 := by
            rw [← hl1, List.length_map]
            have := List.length_filter_le (badF fields) n.props
            omega
          have hHT : Told1 B w wr bc vk vb vn vt mv (fs ++ l1) := HT.out
          have HT0 := Lib.hid hHT
          have HG0 := Lib.hid hg
          have hz0 := hz
          clear HT HM hl1 hHT y0 y2
          go_wp2_with fail
          go_loopw [52] (fun i wx => ∃ k : Nat, k ≤ fields.length ∧ i = .int .i64 k ∧ Hid (Told1 B w wx bc vk vb vn vt mv ((fs ++ l1) ++ ((fields.take k).filter (lackF n)).map (fun f => ⟨3, n.id, f.name⟩))) ∧ wx.heap[w.heap.size]? = some (.cells #[.int .i64 n.id, .string n.kind, .slice Au n.props.length cu] 34 (0, 0))) (fun i _ => fields.length - (intOf i).toNat)
          case atStart => exact ⟨0, Nat.zero_le _, rfl, by unfold Hid; simpa using HT0.out, HG0.out⟩
          case round =>
            clear HT0 HG0 hg hz hz0
            obtain ⟨k, hk, rfl, HT, hg⟩ := hrel
            have y0 := block_cell hg 0
            have y2 := block_cell hg 2
            by_cases hlt : k < fields.length
            · obtain ⟨f, hd⟩ : ∃ d, fields[k]? = some d := ⟨_, List.getElem?_eq_getElem hlt⟩
              have hWr : Below W1.heap.size W1 wr := by rw [hBW] at HT; exact hW.trans HT.out.b
              obtain ⟨gb, o, rfl, hok, q0, q1, q2, q3⟩ := fld_at ((HF.out.same (HT.out.s 135 (by decide) (by decide))).flds HFO.out) hd
              have hlt' : (k : Int) < (fields.length : Int) := by omega
              have ha1 : Below wr.heap.size wr (wr.alloc (.cells #[.string f.name, .int .i64 f.ty, .bool f.must, .bool f.key] 135)) := (Below.refl _ _).alloc (Nat.le_refl _) _
              obtain ⟨z0, z1, z2, z3⟩ := cell_box4 wr (.string f.name) (.int .i64 f.ty) (.bool f.must) (.bool f.key) 135
              have y0 := cell_below ha1 y0
              have y2 := cell_below ha1 y2
              have HS := Lib.hid (filt_snoc (lackF n) (fun f => (⟨3, n.id, f.name⟩ : Flt)) hd)
              have hle := filt_le fields k (lackF n) (fun f => (⟨3, n.id, f.name⟩ : Flt))
              have hBr : B ≤ wr.heap.size := by have := HT.out.z; omega
              have HT1 := Lib.hid (HT.out.last hBr ha1)
              have hg1 := (ha1.block _ (Array.getElem?_eq_some_iff.1 hg).1).trans hg
              have HBD : Hid (lackF n f = (f.must && !rhas n.props f.name)) := rfl
              have HOK : Hid (Sm f.name) := hok.1
              have hBa : B ≤ (wr.alloc (.cells #[.string f.name, .int .i64 f.ty, .bool f.must, .bool f.key] 135)).heap.size := by simp; omega
              have hrf := rfind_any n.props f.name _ _ ((HU.out.below hWr).below ha1) hch hpl
              clear hd hok HT hWr hg ha1
              go_upto_region 16 with fail
              generalize wr.alloc (.cells #[.string f.name, .int .i64 f.ty, .bool f.must, .bool f.key] 135) = Wa at *
              generalize rhas n.props f.name = q at *
              generalize rpos n.props f.name = ps at *
              go_wp2_with fail
              refine hrf.mono ?_
              clear hrf
              rintro e w3 ⟨rfl, hb3⟩
              have z0 := cell_below hb3 z0
              have z2 := cell_below hb3 z2
              have y0 := cell_below hb3 y0
              have HT3 := Lib.hid (HT1.out.last hBa hb3)
              have hg3 := (hb3.block _ (Array.getElem?_eq_some_iff.1 hg1).1).trans hg1
              have hB3 : B ≤ w3.heap.size := Nat.le_trans hBa hb3.size
              clear HT1 hg1 hb3 z1 z3 y2
              cases hq : (f.must && !q) with
              | false =>
                have HN : Hid (Told1 B w w3 bc vk vb vn vt mv ((fs ++ l1) ++ ((fields.take (k + 1)).filter (lackF n)).map (fun f => ⟨3, n.id, f.name⟩))) := by
                  unfold Hid; rw [HS.out, HBD.out, hq]; simpa using HT3.out
                have HQ := Lib.hid hq
                clear HS HBD HT3 hq
                generalize f.must = fm at *
                cases fm <;> cases q
                case true.false => exact absurd HQ.out (by decide)
                all_goals
                  clear HQ
                  go_wp2_with fail
                  go_roundw
                  case rel => exact ⟨k + 1, by omega, by go_num, HN, hg3⟩
                  case measure => simp [intOf]; omega
              | true =>
                have HN : Hid ((fs ++ l1) ++ ((fields.take (k + 1)).filter (lackF n)).map (fun f => (⟨3, n.id, f.name⟩ : Flt)) = ((fs ++ l1) ++ ((fields.take k).filter (lackF n)).map (fun f => (⟨3, n.id, f.name⟩ : Flt))) ++ [⟨3, n.id, f.name⟩]) := by
                  unfold Hid; rw [HS.out, HBD.out, hq]; simp
                obtain ⟨out', hc⟩ := HT3.out.c
                have htell := tell_any B bc vk vb vn vt mv out' _ ⟨3, n.id, f.name⟩ w3 hB3 hc ⟨⟨by show (-9223372036854775808 : Int) ≤ 3; omega, by show (3 : Int) ≤ 9223372036854775807; omega⟩, hid, HOK.out⟩ (by rw [List.length_append, List.length_append]; omega)
                rw [← HN.out] at htell
                have HQ := Lib.hid hq
                clear HS HBD HN hc hq
                generalize f.must = fm at *
                cases fm <;> cases q
                case true.false =>
                  clear HQ
                  go_wp2_with fail
                  refine htell.mono ?_
                  clear htell
                  rintro e w5 ⟨rfl, ht5⟩
                  have HT5 := Lib.hid (HT3.out.trans ht5)
                  have hg5 := ht5.s 34 (by decide) (by decide) _ _ _ hg3
                  clear ht5
                  go_wp2_with fail
                  go_roundw
                  case rel => exact ⟨k + 1, by omega, by go_num, HT5, hg5⟩
                  case measure => simp [intOf]; omega
                all_goals exact absurd HQ.out (by decide)
            · obtain rfl : k = fields.length := by omega
              rw [List.take_length] at HT
              go_wp2_with fail
              go_end0
              exact ⟨rfl, by rw [HR.out, ← List.append_assoc]; exact HT.out⟩
end Go.Proofs.YtkegnmclhkpbkaaGreat

/- Contract: a checker and a node by itself. No condition. -/
namespace Go.Proofs.YtkegnmclhkpbkaaGreat
open Go Go.RowKit


/-- The fields of a node's kind; none, where there is no such kind. -/
def kfl (s : Scm) (nm : ByteArray) : List Fld := if kFind s.kinds nm < 0 then [] else (fieldsOf s.kinds nm).getD []
def aloneF (s : Scm) (n : Nod) : List Flt := if kFind s.kinds n.kind < 0 then [⟨1, n.id, n.kind⟩] else recF (kfl s n.kind) n
/-- What a checker needs of its data. -/
structure CkOk (s : Scm) : Prop where
  l : s.kinds.length ≤ 12
  o : ∀ k ∈ s.kinds, k.ofs.length ≤ 64
  f : ∀ k ∈ s.kinds, k.fields.length ≤ 8
def AloneR (B bc : Nat) (vk vb vn vt mv : Value) (fs : List Flt) (s : Scm) (n : Nod) (w : World) (e : Ending) (w' : World) : Prop :=
  ∃ v, e = .returned (.tuple #[v, .bool (decide (0 ≤ kFind s.kinds n.kind))]) ∧ Own w' B 135 4 v (kfl s n.kind).length ((kfl s n.kind).flatMap Fld.enc) ∧ (∀ x ∈ kfl s n.kind, x.ok) ∧ Told1 B w w' bc vk vb vn vt mv (fs ++ aloneF s n)
set_option maxRecDepth 100000 in
set_option maxHeartbeats 8000000 in
theorem alone_any (B bc : Nat) (vk vb vn vt mv out : Value) (fs : List Flt) (s : Scm) (n : Nod) (u : Value) (W1 w : World) (hBW : B = W1.heap.size) (hW : Below W1.heap.size W1 w) (hC : Ck B w bc vk vb vn vt mv out fs)
    (hs : ScmR W1 vk vb s) (hok : CkOk s) (hu : Sl prpL W1 u n.props) (hid : I64 n.id) (hkd : Sm n.kind) (hch : chain prpLt n.props = true) (hpl : n.props.length ≤ 1000) (hfl : (kfl s n.kind).length ≤ 1000) (hl : fs.length ≤ 90000) :
    Calls Tryz.prog 71 #[.pointer (some ⟨bc, 0, none⟩), .agg #[.int .i64 n.id, .string n.kind, u]] w (AloneR B bc vk vb vn vt mv fs s n w) := by
  obtain ⟨Au, cu, rfl, _, _⟩ := hu.form
  obtain ⟨Ak, ck, rfl, _, _⟩ := hs.1.form
  obtain ⟨Ab, cb, rfl, _, _⟩ := hs.2.form
  have hb0 : Below w.heap.size w (w.alloc (.cells #[.int .i64 n.id, .string n.kind, .slice Au n.props.length cu] 34)) := (Below.refl _ _).alloc (Nat.le_refl _) _
  have g0 := heap_alloc_new w (.cells #[.int .i64 n.id, .string n.kind, .slice Au n.props.length cu] 34)
  generalize hW0 : w.alloc (.cells #[.int .i64 n.id, .string n.kind, .slice Au n.props.length cu] 34) = W0 at *
  have hwB : B ≤ w.heap.size := by rw [hBW]; exact hW.size
  have hw0 := hb0.size
  have hW01 : Below W1.heap.size W1 W0 := hW.trans (hb0.mono hW.size)
  have hC0 := hC.below hb0
  have y0 := block_cell hC0.q 0
  have x0 := block_cell g0 0
  have x1 := block_cell g0 1
  have x2 := block_cell g0 2
  have HC0 := Lib.hid hC0
  have HG0 := Lib.hid g0
  have HS := Lib.hid hs
  have HU := Lib.hid hu
  have HK : Hid (∀ W, Below W1.heap.size W1 W → Calls Tryz.prog 74 #[.slice Ak s.kinds.length ck, .string n.kind] W fun e w' => e = .returned (.int .i64 (kFind s.kinds n.kind)) ∧ Below W.heap.size W w') := fun W h => kFind_any s.kinds n.kind _ W (HS.out.below h).1
  have HFO : Hid (∀ W, Below W1.heap.size W1 W → Calls Tryz.prog 101 #[.slice Ak s.kinds.length ck, .string n.kind] W (FieldsO s.kinds n.kind W)) := fun W h => fieldsOfO_any s.kinds n.kind _ W (HS.out.below h).1 hkd (by have := hok.l; omega) hok.o hok.f
  have HAF : Hid (aloneF s n = if kFind s.kinds n.kind < 0 then [⟨1, n.id, n.kind⟩] else recF (kfl s n.kind) n) := rfl
  have HKF : Hid (kfl s n.kind = if kFind s.kinds n.kind < 0 then [] else (fieldsOf s.kinds n.kind).getD []) := rfl
  have hT0 : Told1 B w W0 bc (.slice Ak s.kinds.length ck) (.slice Ab s.bonds.length cb) vn vt mv fs := Told1.first hb0 hwB ⟨⟨_, hC0⟩, Below.refl _ _, fun _ _ _ => Same.refl _ _, fun _ _ _ h => h, Nat.le_refl _⟩
  have HT0 := Lib.hid hT0
  have HKD := Lib.hid hkd
  generalize hkf : kFind s.kinds n.kind = z at *
  have HKZ := Lib.hid hkf
  have HBW := Lib.hid hBW
  clear hC hs hu hC0 g0 hok hT0 hkd hkf hBW
  go_enter Tryz.func71, Tryz.ntmps71
  go_wp2_with fail
  clear hW0
  refine wp_mid_k 7 _ rfl rfl (by kernel_rfl) (by kernel_rfl) ?_
  simp only [List.take_succ_cons, List.take_zero, List.drop_succ_cons, List.drop_zero]
  repeat (go_big_quiet_step (fail))
  refine wpQuiet_nil ?_
  intro _ hw'
  obtain ⟨nq, hw''⟩ := hw'
  subst hw''
  intro K hK
  have hk1 := HK.out (W0.drewN nq) (hW01.trans (below_drewN (Below.refl _ _) nq))
  go_wp2_with fail
  refine hk1.mono ?_
  clear hk1
  rintro e w2 ⟨rfl, hb2⟩
  have hb02 := (below_drewN (Below.refl W0.heap.size W0) nq).trans hb2
  refine hK _ _ ?_
  repeat (go_big_quiet_step (fail))
  refine wpQuiet_nil ?_
  intro _ hw'
  obtain ⟨nq2, hw''⟩ := hw'
  subst hw''
  clear hK
  have hbW := below_drewN hb02 nq2
  generalize w2.drewN nq2 = W2 at *
  have hB2 : B ≤ W2.heap.size := by have := hbW.size; omega
  have hW12 : Below W1.heap.size W1 W2 := hW01.trans (hbW.mono hW01.size)
  have hB0 : B ≤ W0.heap.size := by omega
  have HT2 := Lib.hid (HT0.out.last hB0 hbW)
  have HC2 := Lib.hid (HC0.out.below hbW)
  have hg2 := (hbW.block _ (Array.getElem?_eq_some_iff.1 HG0.out).1).trans HG0.out
  have y0 := block_cell HC2.out.q 0
  have x0 := block_cell hg2 0
  have x1 := block_cell hg2 1
  have x2 := block_cell hg2 2
  have HG2 := Lib.hid hg2
  clear hb2 hb02 hbW HT0 HC0 HG0 hg2 HK hW01
  by_cases hz : z < 0
  · have hz' : decide (z < 0) = true := decide_eq_true hz
    have HA : Hid (aloneF s n = [⟨1, n.id, n.kind⟩] ∧ kfl s n.kind = []) := ⟨by rw [HAF.out, if_pos hz], by rw [HKF.out, if_pos hz]⟩
    have htell := tell_any B bc _ _ vn vt mv out fs ⟨1, n.id, n.kind⟩ W2 hB2 HC2.out ⟨⟨by show (-9223372036854775808 : Int) ≤ 1; omega, by show (1 : Int) ≤ 9223372036854775807; omega⟩, hid, HKD.out⟩ (by omega)
    have HZ : Hid (decide (0 ≤ kFind s.kinds n.kind) = false) := by unfold Hid; rw [HKZ.out]; exact decide_eq_false (by omega)
    clear HAF HKF HC2 HFO
    go_wp2_with fail
    refine htell.mono ?_
    clear htell
    rintro e w5 ⟨rfl, ht5⟩
    have HT5 := Lib.hid (HT2.out.trans ht5)
    clear ht5
    go_wp2_with fail
    go_ret2
    exact ⟨.slice none 0 0, by rw [HZ.out]; rfl, by rw [HA.out.2]; exact Own.nil _ _ _ _, by rw [HA.out.2]; exact (fun x hx => by cases hx), by rw [HA.out.1]; exact HT5.out⟩
  · have hz' : decide (z < 0) = false := decide_eq_false hz
    have HA : Hid (aloneF s n = recF (kfl s n.kind) n ∧ kfl s n.kind = (fieldsOf s.kinds n.kind).getD []) := ⟨by rw [HAF.out, if_neg hz], by rw [HKF.out, if_neg hz]⟩
    have HZ : Hid (decide (0 ≤ kFind s.kinds n.kind) = true) := by unfold Hid; rw [HKZ.out]; exact decide_eq_true (by omega)
    have hz2 : (0 : Int) ≤ z := by omega
    clear HAF HKF hz
    go_wp2_with fail
    refine wp_mid_k 7 _ rfl rfl (by kernel_rfl) (by kernel_rfl) ?_
    simp only [List.take_succ_cons, List.take_zero, List.drop_succ_cons, List.drop_zero]
    repeat (go_big_quiet_step (fail))
    refine wpQuiet_nil ?_
    intro _ hw'
    obtain ⟨nq, hw''⟩ := hw'
    subst hw''
    intro K hK
    have hf1 := HFO.out (W2.drewN nq) (hW12.trans (below_drewN (Below.refl _ _) nq))
    generalize (fieldsOf s.kinds n.kind).isSome = iss at *
    go_wp2_with fail
    refine hf1.mono ?_
    clear hf1 HFO
    rintro e w3 ⟨v3, rfl, ⟨ho3, hok3⟩, hb3⟩
    rw [← HA.out.2] at ho3 hok3
    have ho3 := ho3.mono (B' := B) hB2
    obtain ⟨A3, c3, rfl, _, _⟩ := ho3.form
    have hb23 := (below_drewN (Below.refl W2.heap.size W2) nq).trans hb3
    refine hK _ _ ?_
    repeat (go_big_quiet_step (fail))
    refine wpQuiet_nil ?_
    intro _ hw'
    obtain ⟨nq2, hw''⟩ := hw'
    subst hw''
    clear hK
    have hbX := below_drewN hb23 nq2
    have ho4 := ho3.drewN nq2
    generalize w3.drewN nq2 = W3 at *
    have hB3 : B ≤ W3.heap.size := by have := hbX.size; omega
    have hW13 : Below W1.heap.size W1 W3 := hW12.trans (hbX.mono hW12.size)
    have HT3 := Lib.hid (HT2.out.last hB2 hbX)
    have hc3 := HC2.out.below hbX
    have hg3 := (hbX.block _ (Array.getElem?_eq_some_iff.1 HG2.out).1).trans HG2.out
    have x0 := block_cell hg3 0
    have x1 := block_cell hg3 1
    have x2 := block_cell hg3 2
    have hrec := record_any B bc _ _ vn vt mv out fs n (kfl s n.kind) _ _ W1 W3 HBW.out hW13 hc3 HU.out hid hch hpl ho4 hok3 hfl hl
    have HO4 := Lib.hid ho4
    have HOK := Lib.hid hok3
    generalize hfl0 : kfl s n.kind = fl at *
    have HFL := Lib.hid hfl0.symm
    clear hfl0
    clear hb3 hb23 hbX ho3 hok3 ho4 hc3 hg3 y0 HC2 HG2 HT2
    go_wp2_with fail
    refine hrec.mono ?_
    clear hrec
    rintro e w5 ⟨rfl, ht5⟩
    have HT5 := Lib.hid (HT3.out.trans ht5)
    have HO5 := Lib.hid (HO4.out.same (ht5.s 135 (by decide) (by decide)))
    clear ht5
    go_wp2_with fail
    go_ret2
    exact ⟨.slice A3 fl.length c3, by rw [HZ.out]; rfl, by rw [← HFL.out]; exact HO5.out, by rw [← HFL.out]; exact HOK.out, by rw [HA.out.1]; exact HT5.out⟩
end Go.Proofs.YtkegnmclhkpbkaaGreat
