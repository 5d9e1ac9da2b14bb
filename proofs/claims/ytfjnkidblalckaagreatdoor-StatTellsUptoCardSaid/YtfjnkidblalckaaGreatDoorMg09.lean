/- Parts: Eqs, KinH, CloA. -/
import Derived.Test.YtfjnkidblalckaaGreatDoorMg03
import Derived.Laws.StructEq
import Derived.Test.YtfjnkidblalckaaGreatDoorMg08
import Derived.Test.YtfjnkidblalckaaGreatDoorMg04
import Derived.WalkSpells
import Derived.Test.YtfjnkidblalckaaGreatDoorRows
import Derived.Lib.SliceRun
/- Plain laws of the model: '==' and '!=' between the program's structs of flat cells. No condition. -/
namespace Go.Proofs.YtfjnkidblalckaaGreatDoor
open Go Go.RowKit

theorem bytes_eq (a b : ByteArray) : (a.toList = b.toList) = (a = b) := by
  have := bytes_beq a b
  apply propext
  constructor
  · intro h; rw [h] at this; simpa using this.symm
  · intro h; rw [h]
theorem fld_guard (op : BinOp) (a b : Operand) (xs ys : Array Value) (w : World) : (eqGuard op 144 a b (.agg xs) (.agg ys)).run Tryz.prog w = .ok () w := run_eqGuard_agg w op 144 a b xs ys (by kernel_rfl)
theorem fld_same (d : Nat) (x y : Fld) (w : World) : (Op.equalIn (d + 2) 144 (.agg #[.string x.name, .int .i64 x.ty, .bool x.must, .bool x.key]) (.agg #[.string y.name, .int .i64 y.ty, .bool y.must, .bool y.key])).run Tryz.prog w = .ok (decide (x = y)) w := by
  have hS : Tryz.prog.underlying 144 = some (.struct (Tryz.prog.fieldsOf 144)) := by kernel_rfl
  have hp : Tryz.prog.stoodInHeld 144 = false := by kernel_rfl
  have e1 := Tryz.underlying9
  have e2 := Tryz.underlying3
  have e3 := Tryz.underlying4
  rw [run_equalIn_agg w (d + 1) 144 _ _ hS hp]
  simp only [Program.fieldsOf, Tryz.underlying144]
  go_simp
  simp only [bytes_eq]
  cases x; cases y
  simp only [Fld.mk.injEq]
  rename_i a b c d a' b' c' d'
  by_cases h1 : a = a' <;> by_cases h2 : b = b' <;> by_cases h3 : c = c' <;> by_cases h4 : d = d' <;> simp [h1, h2, h3, h4]
theorem fld_eql (x y : Fld) (w : World) : (binOp .eql 144 (.agg #[.string x.name, .int .i64 x.ty, .bool x.must, .bool x.key]) (.agg #[.string y.name, .int .i64 y.ty, .bool y.must, .bool y.key])).run Tryz.prog w = .ok (.bool (decide (x = y))) w := by
  rw [run_eql_struct, show (10000 : Nat) = 9998 + 2 from rfl, fld_same]; rfl
theorem fld_neq (x y : Fld) (w : World) : (binOp .neq 144 (.agg #[.string x.name, .int .i64 x.ty, .bool x.must, .bool x.key]) (.agg #[.string y.name, .int .i64 y.ty, .bool y.must, .bool y.key])).run Tryz.prog w = .ok (.bool (!decide (x = y))) w := by
  rw [run_neq_struct, show (10000 : Nat) = 9998 + 2 from rfl, fld_same]; rfl
end Go.Proofs.YtfjnkidblalckaaGreatDoor

/- Contract: kind.FieldsOf: a kind's fields, all of its kin's. -/
namespace Go.Proofs.YtfjnkidblalckaaGreatDoor
open Go Go.RowKit

def FieldsR (l : List Knd) (name : ByteArray) (w : World) (e : Ending) (w' : World) : Prop :=
  ∃ u, e = .returned (.tuple #[u, .bool (fieldsOf l name).isSome]) ∧ Sl fldL w' u ((fieldsOf l name).getD []) ∧ Below w.heap.size w w'
/-- The same, the fields the call's own. -/
def FieldsO (l : List Knd) (name : ByteArray) (w : World) (e : Ending) (w' : World) : Prop :=
  ∃ u, e = .returned (.tuple #[u, .bool (fieldsOf l name).isSome]) ∧ (Own w' w.heap.size 144 4 u ((fieldsOf l name).getD []).length (((fieldsOf l name).getD []).flatMap Fld.enc) ∧ ∀ x ∈ (fieldsOf l name).getD [], x.ok) ∧ Below w.heap.size w w'
theorem kin_known {l : List Knd} {name : ByteArray} : ∀ s ∈ kinL l name, ∃ (i : Nat) (k : Knd), kFind l s = i ∧ l[i]? = some k ∧ fldsFor l s = k.fields := by
  intro s hs
  obtain ⟨⟨k, hk, rfl⟩, _⟩ := mem_kinL.1 hs
  obtain ⟨i, x, h1, h2, h3, _⟩ := kFind_pos (kFind_mem hk)
  refine ⟨i, x, h1, h2, ?_⟩
  unfold fldsFor
  rw [find_of_kFind h1 h2]
theorem kinL_len (l : List Knd) (name : ByteArray) : (kinL l name).length ≤ l.length := by
  unfold kinL
  rw [List.length_map]
  exact List.length_filter_le _ _
theorem fold_step {f : Fld} {rest acc : List Fld} {r : Option (List Fld)} (h : r = (f :: rest).foldlM putF acc) : (∀ acc', putF acc f = some acc' → r = rest.foldlM putF acc') ∧ (putF acc f = none → r = none) := by
  rw [h, List.foldlM_cons]
  exact ⟨fun acc' e => by rw [e]; rfl, fun e => by rw [e]; rfl⟩
theorem put_new {acc : List Fld} {f : Fld} (h : eqAt (fldC f.name) acc (lowI (fldC f.name) acc) = false) : putF acc f = some (acc.take (lowI (fldC f.name) acc) ++ f :: acc.drop (lowI (fldC f.name) acc)) := by
  unfold putF; rw [h]; simp
theorem put_old {acc : List Fld} {f q : Fld} (h : eqAt (fldC f.name) acc (lowI (fldC f.name) acc) = true) (hq : acc[lowI (fldC f.name) acc]? = some q) : putF acc f = if q = f then some acc else none := by
  unfold putF; rw [h, hq]; simp
theorem eqAt_some {D : Type} {c : D → Int} {l : List D} {p : Nat} (h : eqAt c l p = true) : ∃ d, l[p]? = some d := by
  unfold eqAt at h
  cases hd : l[p]? with
  | none => rw [hd] at h; simp at h
  | some d => exact ⟨d, rfl⟩

set_option maxRecDepth 100000 in
set_option maxHeartbeats 8000000 in
theorem fieldsOfO_any (l : List Knd) (name : ByteArray) (v : Value) (w : World) (hv : Sl kndL w v l) (hnm : Sm name) (hll : l.length ≤ 13) (hofs : ∀ k ∈ l, k.ofs.length ≤ 64) (hfl : ∀ k ∈ l, k.fields.length ≤ 8) :
    Calls Tryz.prog 80 #[v, .string name] w (FieldsO l name w) := by
  obtain ⟨A, c, rfl, _, _⟩ := hv.form
  have HV := Lib.hid hv
  have HFL := Lib.hid hfl
  have hkc := kinOf_any l name _ w hv hnm (by omega) hofs
  have HM : Hid (∀ s ∈ kinL l name, ∃ (i : Nat) (k : Knd), kFind l s = i ∧ l[i]? = some k ∧ fldsFor l s = k.fields) := kin_known
  have HF : Hid (fieldsOf l name = (((kinL l name).drop 0).flatMap (fldsFor l)).foldlM putF []) := by unfold Hid; rw [fieldsOf_eq, List.drop_zero]; rfl
  have hkl := kinL_len l name
  clear hv hfl hofs
  go_enter Tryz.func80, Tryz.ntmps80
  go_wp2_with fail
  refine hkc.mono ?_
  clear hkc
  rintro e w1 ⟨kv, rfl, hks, hb1⟩
  generalize kinL l name = ks at *
  obtain ⟨Ak, ck, rfl, _, _⟩ := hks.form
  have hks13 : (ks.length : Int) ≤ 13 := by omega
  go_wp2_with fail
  go_loopw [6, 17] (fun ov i wr => ∃ (k : Nat) (acc : List Fld), k ≤ ks.length ∧ i = .int .i64 k ∧ Below w1.heap.size w1 wr ∧ Own wr w1.heap.size 144 4 ov acc.length (acc.flatMap Fld.enc) ∧ acc.length ≤ 8 * k ∧
    Hid (∀ x ∈ acc, x.ok) ∧ Hid (Rise acc) ∧ Hid (fieldsOf l name = ((ks.drop k).flatMap (fldsFor l)).foldlM putF acc)) (fun _ i _ => ks.length - (intOf i).toNat)
  case atStart => exact ⟨0, [], Nat.zero_le _, rfl, Below.refl _ _, Own.nil _ _ _ _, Nat.le_refl _, (by intro x hx; simp at hx), List.Pairwise.nil, HF⟩
  case round =>
    obtain ⟨k, acc, hk, rfl, hbr, hown, hacc, HO, HR, HE⟩ := hrel
    by_cases hlt : k < ks.length
    · obtain ⟨s, hs⟩ : ∃ s, ks[k]? = some s := ⟨_, List.getElem?_eq_getElem hlt⟩
      obtain ⟨idx, kd, hidx, hkd, hfs⟩ := HM.out s (List.mem_of_getElem? hs)
      have HE2 : Hid (fieldsOf l name = (kd.fields ++ (ks.drop (k + 1)).flatMap (fldsFor l)).foldlM putF acc) := by
        unfold Hid; rw [HE.out, drop_cons hs, List.flatMap_cons, hfs]
      obtain ⟨bk, ok, rfl, hss, x0⟩ := str_at (hks.below hbr) hs
      have hbwr := hb1.trans (hbr.mono hb1.size)
      have hc := kFind_any l s _ wr (HV.out.below hbwr)
      rw [hidx] at hc
      have hkf : kd.fields.length ≤ 8 := HFL.out kd (List.mem_of_getElem? hkd)
      have hil : idx < l.length := (List.getElem?_eq_some_iff.1 hkd).1
      have hil' : (idx : Int) < (l.length : Int) := by omega
      have hlt' : (k : Int) < (ks.length : Int) := by omega
      have HKD := Lib.hid hkd
      have HKS := Lib.hid hks
      clear HE hs hidx hfs hkd hks hkl
      go_wp2_with fail
      refine hc.mono ?_
      clear hc
      rintro e w2 ⟨rfl, hb2⟩
      have hbw2 := hbwr.trans (hb2.mono hbwr.size)
      have hbr2 := hbr.trans (hb2.mono hbr.size)
      have hown2 := hown.below hb2
      obtain ⟨bl, ol, rfl, u, x, _, _, hfx, _, _, c2w⟩ := knd_at HV.out HKD.out
      have c2 := cell_below hbw2 c2w
      obtain ⟨Af, cf, rfl, _, _⟩ := hfx.form
      clear hown hbr hbwr hb2 x0 c2w
      go_wp2_with fail
      go_loopw [6, 29] (fun ov j wx => ∃ (m : Nat) (acc : List Fld), m ≤ kd.fields.length ∧ j = .int .i64 m ∧ Below w1.heap.size w1 wx ∧ Own wx w1.heap.size 144 4 ov acc.length (acc.flatMap Fld.enc) ∧ acc.length ≤ 8 * k + m ∧
        Hid (∀ x ∈ acc, x.ok) ∧ Hid (Rise acc) ∧ Hid (fieldsOf l name = (kd.fields.drop m ++ (ks.drop (k + 1)).flatMap (fldsFor l)).foldlM putF acc)) (fun _ j _ => kd.fields.length - (intOf j).toNat)
      case atStart => exact ⟨0, acc, Nat.zero_le _, rfl, hbr2, hown2, hacc, HO, HR, by unfold Hid; rw [List.drop_zero]; exact HE2.out⟩
      case round =>
        clear hacc HO HR HE2 hown2 hbr2 hbw2 c2
        obtain ⟨m, acc, hm, rfl, hbx, hown, hacc, HO, HR, HE⟩ := hrel
        obtain ⟨Ao, co, rfl, _, _⟩ := hown.form
        have hbwx := hb1.trans (hbx.mono hb1.size)
        by_cases hm2 : m < kd.fields.length
        · obtain ⟨f, hf⟩ : ∃ f, kd.fields[m]? = some f := ⟨_, List.getElem?_eq_getElem hm2⟩
          obtain ⟨bf, of, rfl, hok, y0, y1, y2, y3⟩ := fld_at (hfx.below hbwx) hf
          have HE3 : Hid (fieldsOf l name = (f :: (kd.fields.drop (m + 1) ++ (ks.drop (k + 1)).flatMap (fldsFor l))).foldlM putF acc) := by
            unfold Hid; rw [HE.out, drop_cons hf]; rfl
          have HS := Lib.hid (fold_step HE3.out)
          obtain ⟨z0, z1, z2, z3⟩ := cell_box4 wr (.string f.name) (.int .i64 f.ty) (.bool f.must) (.bool f.key) 144
          have hbB : Below w1.heap.size w1 (wr.alloc (.cells #[.string f.name, .int .i64 f.ty, .bool f.must, .bool f.key] 144)) := hbx.alloc hbx.size _
          have hownB := hown.alloc (.cells #[.string f.name, .int .i64 f.ty, .bool f.must, .bool f.key] 144)
          have hbs := bs_fld 90 #[] (by intro args w; kernel_rfl) (.string f.name) (fldC f.name) acc _ _ (hownB.flds HO.out)
            (fun d u wr' _ hu => by obtain ⟨rfl, _⟩ := hu; exact fieldsOf1_any d f.name wr') (lowI (fldC f.name) acc) (by omega) (lowI_le _ _) (fun i d hi hd => low_lt hi hd) (fun i d hi hd => low_ge (rise_chain HR.out) (fldC_mono _) hi hd)
          have hpl := lowI_le (fldC f.name) acc
          have hm2' : (m : Int) < (kd.fields.length : Int) := by omega
          have hm8 : (m : Int) ≤ 8 := by omega
          have hacc' : (acc.length : Int) ≤ 1000 := by omega
          have hokf : ∀ x ∈ acc, x.ok := HO.out
          have HOF : Hid (∀ acc', putF acc f = some acc' → (∀ x ∈ acc', x.ok) ∧ Rise acc') := fun acc' he =>
            ⟨fun x hx => by rcases (mem_putF he x).1 hx with h | rfl; exact hokf x h; exact hok, putF_rise HR.out he⟩
          clear hokf
          cases hq : eqAt (fldC f.name) acc (lowI (fldC f.name) acc) with
          | false =>
            rw [hq] at hbs
            have HP := Lib.hid (put_new hq)
            generalize lowI (fldC f.name) acc = p at *
            clear hq hf HE HE3
            go_wp2_with fail
            refine hbs.mono ?_
            clear hbs
            rintro e w3 ⟨rfl, hb3⟩
            have hown3 := hownB.below hb3
            have hb13 := hbB.trans (hb3.mono hbB.size)
            have q0 := cell_below hb3 z0
            have q1 := cell_below hb3 z1
            have q2 := cell_below hb3 z2
            have q3 := cell_below hb3 z3
            clear z0 z1 z2 z3 hownB hbB y0 y1 y2 y3
            go_wp2_with fail
            refine (ins_fld (w3.alloc (.cells #[.string f.name, .int .i64 f.ty, .bool f.must, .bool f.key] 144)) w1.heap.size _ acc.length (acc.flatMap Fld.enc) (hown3.alloc _) p hpl w3.heap.size f.enc rfl (heap_alloc_new _ _) f.enc_one (oneCell_flat Fld.enc_one acc)
              (fun e => by have := (hown3.lt _ e).2; omega) (by have := hb13.size; simp; omega) (by omega)).mono ?_
            rintro e w4 ⟨v', rfl, hown4, hg4⟩
            have hl' : (acc.take p ++ f :: acc.drop p).length = acc.length + 1 := by simp; omega
            rw [flat_insert Fld.enc_len acc p hpl, ← hl'] at hown4
            have hb4 : Below w1.heap.size w1 w4 := (hb13.alloc hb13.size _).grown hg4 (by have := hb13.size; simp; omega) (fun kk e => (hown3.lt kk e).1)
            have HN := Lib.hid (HS.out.1 _ HP.out)
            have HO2 := Lib.hid (HOF.out _ HP.out).1
            have HR2 := Lib.hid (HOF.out _ HP.out).2
            have hl2 : (acc.take p ++ f :: acc.drop p).length ≤ 8 * k + (m + 1) := by omega
            clear hg4 HS HP HOF q0 q1 q2 q3
            generalize acc.take p ++ f :: acc.drop p = acc' at *
            obtain ⟨A', c', rfl, _, _⟩ := hown4.form
            clear hl'
            go_wp2_with fail
            go_roundw
            case rel => exact ⟨m + 1, acc', by omega, by go_num, hb4, hown4, hl2, HO2, HR2, HN⟩
            case measure => simp [intOf]; omega
          | true =>
            obtain ⟨q, hq2⟩ := eqAt_some hq
            rw [hq] at hbs
            have HP := Lib.hid (put_old hq hq2)
            have hplt : lowI (fldC f.name) acc < acc.length := (List.getElem?_eq_some_iff.1 hq2).1
            generalize lowI (fldC f.name) acc = p at *
            have hplt' : (p : Int) < (acc.length : Int) := by omega
            have HQ2 := Lib.hid hq2
            clear hq hf HE HE3 hq2
            go_wp2_with fail
            refine hbs.mono ?_
            clear hbs
            rintro e w3 ⟨rfl, hb3⟩
            have hown3 := hownB.below hb3
            have hb13 := hbB.trans (hb3.mono hbB.size)
            have q0 := cell_below hb3 z0
            have q1 := cell_below hb3 z1
            have q2 := cell_below hb3 z2
            have q3 := cell_below hb3 z3
            obtain ⟨bo, oo, hAo, _, r0, r1, r2, r3⟩ := fld_at (hown3.flds HO.out) HQ2.out
            subst hAo
            have hneq := fld_neq q f
            have hgd := fld_guard
            clear z0 z1 z2 z3 hownB hbB y0 y1 y2 y3
            by_cases hqf : q = f
            · have hd : decide (q = f) = true := decide_eq_true hqf
              have HP2 : Hid (putF acc f = some acc) := by unfold Hid; rw [HP.out, if_pos hqf]
              rw [hd] at hneq
              have HN := Lib.hid (HS.out.1 _ HP2.out)
              clear HS HP HP2 HOF hd hqf HQ2
              go_wp2_with fail
              go_quiet (fail)
              go_wp2_with fail
              go_roundw
              case rel => exact ⟨m + 1, acc, by omega, by go_num, below_drewN hb13 _, hown3.drewN _, by omega, HO, HR, HN⟩
              case measure => simp [intOf]; omega
            · have hd : decide (q = f) = false := decide_eq_false hqf
              have HP2 : Hid (putF acc f = none) := by unfold Hid; rw [HP.out, if_neg hqf]
              rw [hd] at hneq
              have HN := Lib.hid (HS.out.2 HP2.out)
              clear HS HP HP2 HOF hd hqf HQ2
              go_wp2_with fail
              go_quiet (fail)
              go_wp2_with fail
              go_ret2
              refine ⟨.slice none 0 0, ?_, ?_, below_drewN (hb1.trans (hb13.mono hb1.size)) _⟩
              · rw [HN.out]; rfl
              · rw [HN.out]; exact ⟨Own.nil _ _ _ _, fun x hx => by cases hx⟩
        · obtain rfl : m = kd.fields.length := by omega
          have HE3 : Hid (fieldsOf l name = ((ks.drop (k + 1)).flatMap (fldsFor l)).foldlM putF acc) := by unfold Hid; rw [HE.out, List.drop_length]; rfl
          clear HE
          go_wp2_with fail
          go_roundw
          case rel => exact ⟨k + 1, acc, by omega, by go_num, hbx, hown, by omega, HO, HR, HE3⟩
          case measure => simp [intOf]; omega
    · obtain rfl : k = ks.length := by omega
      have HQ : Hid (fieldsOf l name = some acc) := by unfold Hid; rw [HE.out, List.drop_length]; rfl
      obtain ⟨Ao, co, rfl, _, _⟩ := hown.form
      go_wp2_with fail
      go_ret2
      refine ⟨.slice Ao acc.length co, ?_, ?_, hb1.trans (hbr.mono hb1.size)⟩
      · rw [HQ.out]; rfl
      · rw [HQ.out]; exact ⟨hown.mono hb1.size, HO.out⟩
theorem fieldsOf_any (l : List Knd) (name : ByteArray) (v : Value) (w : World) (hv : Sl kndL w v l) (hnm : Sm name) (hll : l.length ≤ 13) (hofs : ∀ k ∈ l, k.ofs.length ≤ 64) (hfl : ∀ k ∈ l, k.fields.length ≤ 8) :
    Calls Tryz.prog 80 #[v, .string name] w (FieldsR l name w) :=
  (fieldsOfO_any l name v w hv hnm hll hofs hfl).mono fun _ _ ⟨u, h1, h2, h3⟩ => ⟨u, h1, h2.1.flds h2.2, h3⟩
end Go.Proofs.YtfjnkidblalckaaGreatDoor

/- Plain: rows of structs, cell by cell: a list's cells, one behind the other; slices.Clone. No condition. -/
namespace Go.Proofs.YtfjnkidblalckaaGreatDoor
open Go Go.RowKit

section
variable {D : Type} {L : Lay D}
/-- The cells xs are the list's, one behind the other. -/
def Row (L : Lay D) (w : World) : List D → List Value → Prop
  | [], xs => xs = []
  | d :: l, xs => ∃ cs ys, xs = cs ++ ys ∧ L.cells w d cs ∧ Row L w l ys
theorem Row.nil (w : World) : Row L w [] [] := rfl
theorem Row.len {w : World} : ∀ {l : List D} {xs : List Value}, Row L w l xs → xs.length = l.length * L.sz
  | [], xs, h => by rw [show xs = [] from h]; simp
  | d :: l, xs, h => by
    obtain ⟨cs, ys, rfl, hc, hr⟩ := h
    rw [List.length_append, L.len hc, hr.len, List.length_cons, Nat.add_mul]; omega
theorem Row.one {w : World} {d : D} {cs : List Value} (h : L.cells w d cs) : Row L w [d] cs := ⟨cs, [], by simp, h, rfl⟩
theorem Row.append {w : World} : ∀ {l m : List D} {xs ys : List Value}, Row L w l xs → Row L w m ys → Row L w (l ++ m) (xs ++ ys)
  | [], m, xs, ys, h, k => by rw [show xs = [] from h]; simpa using k
  | d :: l, m, xs, ys, h, k => by
    obtain ⟨cs, zs, rfl, hc, hr⟩ := h
    exact ⟨cs, zs ++ ys, by simp, hc, hr.append k⟩
theorem Row.below {w w' : World} (hb : Below w.heap.size w w') : ∀ {l : List D} {xs : List Value}, Row L w l xs → Row L w' l xs
  | [], _, h => h
  | _ :: _, _, h => by
    obtain ⟨cs, zs, rfl, hc, hr⟩ := h
    exact ⟨cs, zs, rfl, L.below hb hc, hr.below hb⟩
theorem Row.split {w : World} : ∀ {l : List D} {xs : List Value} (i : Nat), i ≤ l.length → Row L w l xs → Row L w (l.take i) (xs.take (i * L.sz)) ∧ Row L w (l.drop i) (xs.drop (i * L.sz))
  | l, xs, 0, _, h => by simpa using ⟨Row.nil w, h⟩
  | [], xs, i + 1, hi, h => by simp at hi
  | d :: l, xs, i + 1, hi, h => by
    obtain ⟨cs, ys, rfl, hc, hr⟩ := h
    have hl := L.len hc
    obtain ⟨h1, h2⟩ := hr.split i (by simpa using hi)
    have e : (i + 1) * L.sz = cs.length + i * L.sz := by rw [hl, Nat.add_mul]; omega
    rw [e, List.take_length_add_append, List.drop_length_add_append]
    exact ⟨⟨cs, _, rfl, hc, h1⟩, h2⟩
theorem Row.take {w : World} {l : List D} {xs : List Value} (h : Row L w l xs) (i : Nat) (hi : i ≤ l.length) : Row L w (l.take i) (xs.take (i * L.sz)) := (h.split i hi).1
theorem Row.drop {w : World} {l : List D} {xs : List Value} (h : Row L w l xs) (i : Nat) (hi : i ≤ l.length) : Row L w (l.drop i) (xs.drop (i * L.sz)) := (h.split i hi).2
theorem Row.get {w : World} : ∀ {l : List D} {xs : List Value} {i : Nat} {d : D}, Row L w l xs → l[i]? = some d → ∃ cs, L.cells w d cs ∧ ∀ j u, cs[j]? = some u → xs[i * L.sz + j]? = some u
  | [], _, i, d, _, h => by simp at h
  | e :: l, xs, 0, d, h, hd => by
    obtain ⟨cs, ys, rfl, hc, hr⟩ := h
    simp at hd; subst hd
    exact ⟨cs, hc, fun j u hj => by rw [Nat.zero_mul, Nat.zero_add, List.getElem?_append_left (List.getElem?_eq_some_iff.1 hj).1]; exact hj⟩
  | e :: l, xs, i + 1, d, h, hd => by
    obtain ⟨cs, ys, rfl, hc, hr⟩ := h
    obtain ⟨cs', hc', hx⟩ := hr.get (i := i) (by simpa using hd)
    refine ⟨cs', hc', fun j u hj => ?_⟩
    have hl := L.len hc
    rw [List.getElem?_append_right (by rw [hl, Nat.add_mul]; omega)]
    have : (i + 1) * L.sz + j - cs.length = i * L.sz + j := by rw [hl, Nat.add_mul]; omega
    rw [this]
    exact hx j u hj
theorem Row.insert {w : World} {l : List D} {xs cs : List Value} {d : D} (h : Row L w l xs) (i : Nat) (hi : i ≤ l.length) (hc : L.cells w d cs) : Row L w (l.take i ++ d :: l.drop i) (xs.take (i * L.sz) ++ cs ++ xs.drop (i * L.sz)) := by
  rw [List.append_assoc]
  exact (h.take i hi).append ((Row.one hc).append (h.drop i hi))
theorem Row.snoc {w : World} {l : List D} {xs cs : List Value} {d : D} (h : Row L w l xs) (hc : L.cells w d cs) : Row L w (l ++ [d]) (xs ++ cs) := h.append (Row.one hc)
/-- What an element's cells may be. -/
def OneL (L : Lay D) : Prop := ∀ w d cs, L.cells w d cs → ∀ u ∈ cs, u.oneCell' = true
theorem Row.oneCell (h1 : OneL L) {w : World} : ∀ {l : List D} {xs : List Value}, Row L w l xs → ∀ u ∈ xs, u.oneCell' = true
  | [], xs, h, u, hu => by rw [show xs = [] from h] at hu; simp at hu
  | d :: l, xs, h, u, hu => by
    obtain ⟨cs, ys, rfl, hc, hr⟩ := h
    rcases List.mem_append.1 hu with hu | hu
    · exact h1 _ _ _ hc u hu
    · exact hr.oneCell h1 u hu
theorem row_of_all {w : World} {b : Nat} : ∀ {l : List D} {o : Nat}, (∀ k d, l[k]? = some d → ∃ cs, L.cells w d cs ∧ ∀ j u, cs[j]? = some u → w.cell? ⟨b, o + (k * L.sz + j), none⟩ = some u) →
    ∃ xs, Row L w l xs ∧ ∀ j u, xs[j]? = some u → w.cell? ⟨b, o + j, none⟩ = some u
  | [], o, _ => ⟨[], rfl, fun j u h => by simp at h⟩
  | d :: l, o, h => by
    obtain ⟨cs, hc, hx⟩ := h 0 d rfl
    obtain ⟨xs, hr, hy⟩ := row_of_all (b := b) (l := l) (o := o + L.sz) (fun k d hk => by
      obtain ⟨cs', hc', hx'⟩ := h (k + 1) d (by simpa using hk)
      refine ⟨cs', hc', fun j u hj => ?_⟩
      rw [← hx' j u hj]
      have : o + L.sz + (k * L.sz + j) = o + ((k + 1) * L.sz + j) := by rw [Nat.add_mul]; omega
      rw [this])
    refine ⟨cs ++ xs, ⟨cs, xs, rfl, hc, hr⟩, fun j u hj => ?_⟩
    have hl := L.len hc
    by_cases hjl : j < cs.length
    · rw [List.getElem?_append_left hjl] at hj
      have := hx j u hj
      rwa [Nat.zero_mul, Nat.zero_add] at this
    · rw [List.getElem?_append_right (by omega)] at hj
      rw [← hy _ u hj]
      have : o + L.sz + (j - cs.length) = o + j := by omega
      rw [this]
theorem Row.of_sl {w : World} {A : Option Addr} {n c : Nat} {l : List D} (h : Sl L w (.slice A n c) l) : ∃ xs, Row L w l xs ∧ (0 < l.length → ∃ b o, A = some ⟨b, o, none⟩ ∧ ∀ j u, xs[j]? = some u → w.cell? ⟨b, o + j, none⟩ = some u) := by
  by_cases hn : 0 < l.length
  · obtain ⟨b, o, hA, hall⟩ := h.all hn
    obtain ⟨xs, hr, hx⟩ := row_of_all hall
    exact ⟨xs, hr, fun _ => ⟨b, o, hA, hx⟩⟩
  · have : l = [] := List.eq_nil_of_length_eq_zero (by omega)
    subst this
    exact ⟨[], rfl, fun h => absurd h hn⟩
theorem Own.row {w : World} {B : Nat} {e : TypeId} {v : Value} {l : List D} {xs : List Value} (h : Own w B e L.sz v l.length xs) (hr : Row L w l xs) : Sl L w v l := by
  obtain ⟨A, c, rfl, h1, h2⟩ := h.form
  refine ⟨A, c, rfl, h1, h2, fun i d hi => ?_⟩
  obtain ⟨g, o, c', hv, _, _⟩ := h.addr (len_pos hi)
  injection hv with hA _ hc
  subst hA; subst hc
  obtain ⟨cs, hc, hx⟩ := hr.get hi
  exact ⟨g, o, cs, rfl, hc, fun j u hj => h.cell rfl (hx j u hj)⟩
end
theorem Row.flat {D : Type} {n : Nat} {ok : D → Prop} {enc : D → List Value} {hn : ∀ d, (enc d).length = n} {w : World} : ∀ {l : List D} {xs : List Value}, Row (flatL n ok enc hn) w l xs → xs = l.flatMap enc ∧ ∀ x ∈ l, ok x
  | [], xs, h => ⟨h, fun x hx => by simp at hx⟩
  | d :: l, xs, h => by
    obtain ⟨cs, ys, rfl, ⟨rfl, ho⟩, hr⟩ := h
    obtain ⟨rfl, hk⟩ := Row.flat hr
    refine ⟨by simp, fun x hx => ?_⟩
    rcases List.mem_cons.1 hx with rfl | hx
    · exact ho
    · exact hk x hx
theorem one_knd : OneL kndL := by
  rintro w d cs ⟨v, u, rfl, _, h2, h3⟩ x hx
  obtain ⟨_, _, rfl, _⟩ := h2
  obtain ⟨_, _, rfl, _⟩ := h3
  simp at hx
  rcases hx with rfl | rfl | rfl <;> rfl
theorem one_nod : OneL nodL := by
  rintro w d cs ⟨v, rfl, _, _, h3⟩ x hx
  obtain ⟨_, _, rfl, _⟩ := h3
  simp at hx
  rcases hx with rfl | rfl | rfl <;> rfl
theorem one_flat {D : Type} {n : Nat} {ok : D → Prop} {enc : D → List Value} {hn : ∀ d, (enc d).length = n} (h1 : ∀ d, ∀ u ∈ enc d, u.oneCell' = true) : OneL (flatL n ok enc hn) := by
  rintro w d cs ⟨rfl, _⟩ x hx
  exact h1 d x hx
theorem one_str : OneL strL := one_flat fun d u hu => by simp at hu; subst hu; rfl
theorem one_int : OneL intL := one_flat fun d u hu => by simp at hu; subst hu; rfl
theorem one_prp : OneL prpL := one_flat Prp.enc_one
theorem one_fld : OneL fldL := one_flat Fld.enc_one
theorem one_tie : OneL tieL := one_flat Tie.enc_one
theorem one_bnd : OneL bndL := one_flat Bnd.enc_one
theorem one_sl {D : Type} (L : Lay D) : OneL (slL L) := by
  rintro w d cs ⟨v, rfl, h⟩ x hx
  obtain ⟨_, _, rfl, _⟩ := h
  simp at hx; subst hx; rfl

/-- A copy of the call's own. -/
def CloneR {D : Type} (L : Lay D) (e : TypeId) (l : List D) (w : World) (ed : Ending) (w' : World) : Prop :=
  ∃ v xs, ed = .returned v ∧ Own w' w.heap.size e L.sz v l.length xs ∧ Row L w l xs ∧ Below w.heap.size w w'
theorem Own.made {w : World} {e : TypeId} {sz : Nat} : Own (w.alloc (.cells #[] e)) w.heap.size e sz (.slice (some ⟨w.heap.size, 0, none⟩) 0 0) 0 [] :=
  ⟨by simp, .inr ⟨_, 0, 0, #[], rfl, Nat.le_refl _, heap_alloc_new _ _, Nat.le_refl _, Nat.zero_le _, by simp, by simp⟩⟩

theorem clone_knds_info : (Tryz.prog.info? 39).map (fun i => (i.zero, i.size, i.bytes)) = some (some (.agg #[.string .empty, .slice none 0 0, .slice none 0 0]), 3, 64) := by kernel_rfl
set_option maxHeartbeats 2000000 in
theorem clone_knds {w : World} {v : Value} {l : List Knd} (hv : Sl kndL w v l) (hl : l.length ≤ 1048576) : Calls Tryz.prog 79 #[v] w (CloneR kndL 39 l w) := by
  obtain ⟨i0, ei, ez, ez1, ez2⟩ := info_parts clone_knds_info
  obtain ⟨A, c, rfl, _, _⟩ := hv.form
  obtain ⟨xs, hr, hx⟩ := Row.of_sl hv
  have hlen := hr.len
  have h1 := hr.oneCell one_knd
  have q22 : ∀ (w : World) (a : Option Addr) (n c n' c' : Nat), (binOp .eql 22 (.slice a n c) (.slice none n' c')).run Tryz.prog w = .ok (.bool a.isNone) w := fun w a n c n' c' => Lib.run_eql_slice_nil w _ _ a n c n' c' Tryz.underlying22
  cases A with
  | none =>
    have h0 : l = [] := by
      rcases Nat.eq_zero_or_pos l.length with h | h
      · exact List.eq_nil_of_length_eq_zero h
      · obtain ⟨_, _, hA, _⟩ := hx h; cases hA
    subst h0
    clear hv hr hx hlen h1
    go_enter Tryz.func79, Tryz.ntmps79
    go_wp2_with fail
    go_ret
    exact ⟨_, [], rfl, Own.nil _ _ _ _, rfl, Below.refl _ _⟩
  | some a =>
    have hX : Hid (0 < l.length → ∃ b o, (some a : Option Addr) = some ⟨b, o, none⟩ ∧ ∀ j u, xs[j]? = some u → w.cell? ⟨b, o + j, none⟩ = some u) := hx
    have hR := Lib.hid hr
    have hL := Lib.hid hlen
    have h1H := Lib.hid h1
    clear hv hr hx hlen h1
    go_enter Tryz.func79, Tryz.ntmps79
    go_wp2_with (at_builtin; refine wpList_append_q _ rfl (.tmp 5) (.tmp 6) 22 rfl w.heap.size 39 i0 (.agg #[.string .empty, .slice none 0 0, .slice none 0 0]) 3 64 Tryz.underlying22 ei ez ez1 ez2 rfl (by decide) (.slice (some ⟨w.heap.size, 0, none⟩) 0 0) 0 [] rfl Own.made (some a) l.length c xs rfl hL.out (fun hp => by
        obtain ⟨b, o, hA, hy⟩ := hX.out hp
        exact ⟨_, hA, fun j u hj => by rw [addr_add]; exact cell_below ((Below.refl _ _).alloc (Nat.le_refl _) _) (hy j u hj)⟩) h1H.out (by unfold maxLen; omega) (by omega) (by simp) ?_; intro v7 w7 hown7 hg7 hat7)
    have hb7 : Below w.heap.size w w7 := ((Below.refl _ _).alloc (Nat.le_refl _) _).grown hg7 (by simp) (fun k hk => Nat.le_of_eq (by simpa [Value.ownBlock] using hk))
    simp only [Nat.zero_add, List.nil_append] at hown7
    clear hg7 hat7
    go_ret
    exact ⟨_, xs, rfl, hown7, hR.out, hb7⟩
end Go.Proofs.YtfjnkidblalckaaGreatDoor
